/-
  The reference: ends, Plan, Short, Delay.
-/
import Derived.Test.YtiadineakhcclaaDApi
import Derived.Test.YtiadineakhcclaaRefPlanD
import Derived.Test.YtiadineakhcclaaRefPlanS
namespace Go.Proofs.Ytiadineakhcclaa
open Go.RowKit Go.Deep
set_option linter.unusedVariables false
set_option linter.unusedSimpArgs false

set_option maxHeartbeats 1600000 in
theorem refends_any (A : Option Addr) (n c : Nat) (P : Option Addr) (m pc : Nat) (p : List P3) (w : World) (hn : n ≤ 8) (hm : p.length = m) (hmm : m ≤ 9223372036854775807) (hok : PcOk n p) (hP : PcsA w w.heap.size P p) :
    Calls Try.prog 58 #[.slice A n c, .slice P m pc] w fun e w' => ∃ X c', e = .returned (.slice X n c') ∧ n ≤ c' ∧ IntsA w' w'.heap.size X (finN n p) ∧ Below w.heap.size w w' := by
  have hmk := run_make_row' (P := Try.prog) 41 3 (.int .i64 0) 8 Try.underlying41 info_int rfl .i64 .i64 n (by omega) (by omega)
  obtain ⟨w1, hw1⟩ : ∃ w1, w1 = w.alloc (.cells (madeCells #[.int .i64 0] n) 3) := ⟨_, rfl⟩
  have HR1 : Hid (w1.rowIs w.heap.size 3 n (fun a => .int .i64 ((finTo n p 0).getD a 0))) := by
    subst hw1
    refine (World.rowIs_made w (.int .i64 0) n _).congr fun a ha => ?_
    rw [finTo, List.getD_eq_getElem?_getD, List.getElem?_replicate, if_pos ha]; rfl
  have HB1 : Hid (Below w.heap.size w w1) := by subst hw1; exact (Below.refl _ _).alloc (Nat.le_refl _) _
  have HM := hide hm
  have HOK := hide hok
  have HP := hide hP
  have hmn : (0 : Int) ≤ n := by omega
  clear hm hok hP
  go_enter Try.func58, Try.ntmps58
  go_wp2
  rw [← hw1]
  clear hw1 hmk
  go_loopw [13] (fun v wr => ∃ k : Nat, k ≤ m ∧ v = .int .i64 k ∧ Hid (wr.rowIs w.heap.size 3 n (fun a => .int .i64 ((finTo n p k).getD a 0))) ∧ Below w.heap.size w wr) (fun v _ => m - (intOf v).toNat)
  case atStart => exact ⟨0, Nat.zero_le _, rfl, HR1, HB1.out⟩
  case round =>
    obtain ⟨k, hk, rfl, HR, hb⟩ := hrel
    have HB := hide hb
    by_cases hlt : k < m
    · obtain ⟨bj, oj, j, f, t, rfl, hbj, hc0, hc1, hc2, hx⟩ := (HP.out.below hb).at_ (k := k) (by rw [HM.out]; exact hlt)
      have hkn : (k : Int) < (m : Int) := by omega
      have hj := HOK.out k (by rw [HM.out]; exact hlt)
      rw [hx.out] at hj
      obtain ⟨i, rfl⟩ : ∃ i : Nat, j = i := ⟨j.toNat, by have := hj.1; simp only [] at this; omega⟩
      have hi : i < n := by have := hj.2; simp only [] at this; omega
      have hin : (i : Int) < (n : Int) := by omega
      have hfz := HR.out.frozen i
      have hcr : ∃ v, wr.cell? ⟨w.heap.size, i, none⟩ = some v := ⟨_, HR.out.cell hi⟩
      obtain ⟨v, hcr⟩ := hcr
      have hs3 : w.heap.size < wr.heap.size := HR.out.lt
      have HX := hide hx.out
      clear hx hb hj
      go_wp2
      go_roundw
      case rel =>
        refine ⟨k + 1, by omega, by go_num, hide (((HR.out.set i _).alloc _).congr fun a ha => ?_), (HB.out.setCell (Nat.le_refl _) _).alloc (by simp; exact HB.out.size) _⟩
        rw [finTo, HX.out]
        show (if a = i then Value.int .i64 t else Value.int .i64 ((finTo n p k).getD a 0)) = Value.int .i64 (((finTo n p k).set i t).getD a 0)
        rw [getD_set_i _ _ _ _ _ (by rw [finTo_len]; exact hi)]
        by_cases e : a = i
        · rw [if_pos e, if_pos e]
        · rw [if_neg e, if_neg e]
      case measure => simp [intOf] <;> omega
    · obtain rfl : m = k := by omega
      have HI := hide (ints_of_row HR.out (by rw [finTo_len]) (fun i hi => rfl))
      have HE : Hid (finTo n p m = finN n p) := by rw [finN, HM.out]; exact hide rfl
      go_wp2
      go_ret
      exact ⟨_, n, rfl, Nat.le_refl _, by rw [← HE.out]; exact HI.out, hb⟩

set_option maxHeartbeats 800000 in
theorem refPlan_any (A : Option Addr) (n c : Nat) (L : List J4) (w : World) (hn : L.length = n) (hL : JobsOk L) (hA : JobsA w w.heap.size A L) :
    Calls Try.prog 37 #[.slice A n c] w fun e w' => ∃ X m c', e = .returned (.slice X m c') ∧ (planN false L).length = m ∧ m ≤ c' ∧ PcsA w' w'.heap.size X (planN false L) ∧ Below w.heap.size w w' := by
  have HP := hide (refplanD_any A n c L w hn hL hA)
  clear hn hL hA
  go_enter Try.func37, Try.ntmps37
  go_wp2_with (go_at_call 57; refine (HP.out).mono ?_; rintro e w' ⟨X, m, c', rfl, h1, h2, h3, h4⟩; have H1 := hide h1; have H3 := hide h3; have H4 := hide h4; clear h1 h3 h4)
  go_ret
  exact ⟨X, m, c', rfl, H1.out, h2, H3.out, H4.out⟩
set_option maxHeartbeats 1600000 in
theorem refShort_any (A : Option Addr) (n c : Nat) (L : List J4) (w : World) (hn : L.length = n) (hL : JobsOk L) (hA : JobsA w w.heap.size A L) :
    Calls Try.prog 21 #[.slice A n c] w fun e w' => ∃ X m c', e = .returned (.tuple #[.slice X m c', .int .i64 (endSum L (planN true L))]) ∧ (planN true L).length = m ∧ m ≤ c' ∧ PcsA w' w'.heap.size X (planN true L) ∧ Below w.heap.size w w' := by
  have h8 : n ≤ 8 := by rw [← hn]; exact hL.le
  have hok : PlOk n (planN true L) := hn ▸ planN_ok true hL
  have HD := hide (refplanS_any A n c L w hn hL hA)
  have HE := hide (fun P m pc w2 (hb : Below w.heap.size w w2) hm (hP : PcsA w2 w2.heap.size P (planN true L)) => refends_any A n c P m pc (planN true L) w2 h8 hm (by have := hok.len; omega) hok.job hP)
  have HBD := hide (finN_bd hok)
  have HES : Hid (endSum L (planN true L) = sumT (finN n (planN true L)) n) := by rw [endSum, hn]; exact hide rfl
  have HEL : Hid ((finN n (planN true L)).length = n) := finTo_len n _ _
  clear hA hn hL hok
  obtain ⟨p, hp⟩ : ∃ p, planN true L = p := ⟨_, rfl⟩
  rw [hp] at HD HE HBD HES HEL
  rw [hp]
  clear hp
  obtain ⟨ends, hends⟩ : ∃ ends, finN n p = ends := ⟨_, rfl⟩
  rw [hends] at HE HBD HES HEL
  clear hends
  go_enter Try.func21, Try.ntmps21
  go_wp2_with (first
    | (go_at_call 57; refine (HD.out).mono ?_; rintro e w2 ⟨X, m, c', rfl, h1, h2, h3, h4⟩; have H1 := hide h1; have H3 := hide h3; have H4 := hide h4; clear h1 h3 h4)
    | (go_at_call 58; refine (HE.out _ _ _ _ H4.out H1.out H3.out).mono ?_; rintro e w3 ⟨X2, c2, rfl, hc2, hI, h5⟩; have HI := hide hI; have H6 := hide (H3.out.next h5); have H5 := hide (H4.out.trans (h5.mono H4.out.size)); clear hI h5))
  go_loop [5, 14] (fun v7 v22 => ∃ (k : Nat) (y : Int), k ≤ n ∧ v22 = .int .i64 k ∧ v7 = .int .i64 y ∧ 0 ≤ y ∧ y ≤ 1000 * k ∧ Hid (y = sumT ends k)) (fun _ v => n - (intOf v).toNat)
  case atStart => exact ⟨0, 0, Nat.zero_le _, rfl, rfl, by omega, by omega, hide rfl⟩
  case round =>
    obtain ⟨k, y, hk, rfl, rfl, hy0, hy1, HY⟩ := hrel
    by_cases hlt : k < n
    · obtain ⟨b1, o1, x, rfl, hb1, hc1, hx⟩ := HI.out.at_ (k := k) (by rw [HEL.out]; exact hlt)
      have hkn : (k : Int) < (n : Int) := by omega
      have hxb := HBD.out k
      rw [hx.out] at hxb
      obtain ⟨hxb0, hxb1⟩ := hxb
      have HY2 : Hid (y + x = sumT ends (k + 1)) := by rw [sumT, ← HY.out, hx.out]; exact hide rfl
      clear hx
      go_wp2
      go_round
      case rel => exact ⟨k + 1, _, by omega, by go_num, rfl, by omega, by omega, HY2⟩
      case measure => simp [intOf] <;> omega
    · obtain rfl : n = k := by omega
      have HY2 : Hid (y = endSum L p) := by rw [HES.out]; exact HY
      have e9 := HY2.out
      subst e9
      go_wp2
      go_ret2
      exact ⟨X, m, c', rfl, H1.out, h2, H6.out, H5.out⟩

/-- The greatest delay, from far below. -/
def rdelTo (L : List J4) (e : List Int) : Nat → Int
  | 0 => -1073741824
  | k + 1 => max (rdelTo L e k) (e.getD k 0 - (L.getD k j0).d)
theorem rdelTo_eq {L : List J4} {e : List Int} (hL : JobsOk L) (he : ∀ i, 0 ≤ e.getD i 0 ∧ e.getD i 0 ≤ 1000) : ∀ k, 1 ≤ k → k ≤ L.length → rdelTo L e k = delTo L e k
  | 1, _, hk => by
    have h1 := he 0
    have h2 := hL.at_ 0 hL.pos
    show max (-1073741824) (e.getD 0 0 - (L.getD 0 j0).d) = max (e.getD 0 0 - (L.getD 0 j0).d) (e.getD 0 0 - (L.getD 0 j0).d)
    omega
  | k + 2, _, hk => by
    have h1 := rdelTo_eq hL he (k + 1) (by omega) (by omega)
    rw [rdelTo, delTo, h1]
theorem rdelTo_bd {L : List J4} {e : List Int} (hL : JobsOk L) (he : ∀ i, 0 ≤ e.getD i 0 ∧ e.getD i 0 ≤ 1000) : ∀ k, k ≤ L.length → -1073741824 ≤ rdelTo L e k ∧ rdelTo L e k ≤ 1000
  | 0, _ => by simp [rdelTo]
  | k + 1, hk => by rw [rdelTo]; have := rdelTo_bd hL he k (by omega); have := he k; have := hL.at_ k (by omega); omega
set_option maxHeartbeats 1600000 in
theorem refDelay_any (A : Option Addr) (n c : Nat) (L : List J4) (w : World) (hn : L.length = n) (hL : JobsOk L) (hA : JobsA w w.heap.size A L) :
    Calls Try.prog 38 #[.slice A n c] w fun e w' => e = .returned (.int .i64 (delN L (planN false L))) ∧ Below w.heap.size w w' := by
  have h8 : n ≤ 8 := by rw [← hn]; exact hL.le
  have h1 : 1 ≤ n := by rw [← hn]; exact hL.pos
  have hok : PlOk n (planN false L) := hn ▸ planN_ok false hL
  have HD := hide (refPlan_any A n c L w hn hL hA)
  have HE := hide (fun P m pc w2 (hb : Below w.heap.size w w2) hm (hP : PcsA w2 w2.heap.size P (planN false L)) => refends_any A n c P m pc (planN false L) w2 h8 hm (by have := hok.len; omega) hok.job hP)
  have HBD := hide (finN_bd hok)
  have HES : Hid (delN L (planN false L) = delTo L (finN n (planN false L)) n) := by rw [delN, hn]; exact hide rfl
  have HEL : Hid ((finN n (planN false L)).length = n) := finTo_len n _ _
  have HA := hide hA
  have HN := hide hn
  have HL := hide hL
  clear hA hn hL hok
  obtain ⟨p, hp⟩ : ∃ p, planN false L = p := ⟨_, rfl⟩
  rw [hp] at HD HE HBD HES HEL
  rw [hp]
  clear hp
  obtain ⟨ends, hends⟩ : ∃ ends, finN n p = ends := ⟨_, rfl⟩
  rw [hends] at HE HBD HES HEL
  clear hends
  go_enter Try.func38, Try.ntmps38
  go_wp2_with (first
    | (go_at_call 37; refine (HD.out).mono ?_; rintro e w2 ⟨X, m, c', rfl, h1, h2, h3, h4⟩; have H1 := hide h1; have H3 := hide h3; have H4 := hide h4; clear h1 h3 h4)
    | (go_at_call 58; refine (HE.out _ _ _ _ H4.out H1.out H3.out).mono ?_; rintro e w3 ⟨X2, c2, rfl, hc2, hI, h5⟩; have HI := hide hI; have H5 := hide (H4.out.trans (h5.mono H4.out.size)); clear hI h5))
  go_loop [3, 11] (fun v7 v22 => ∃ (k : Nat) (y : Int), k ≤ n ∧ v22 = .int .i64 k ∧ v7 = .int .i64 y ∧ Hid (y = rdelTo L ends k)) (fun _ v => n - (intOf v).toNat)
  case atStart => exact ⟨0, _, Nat.zero_le _, rfl, rfl, hide rfl⟩
  case round =>
    obtain ⟨k, y, hk, rfl, rfl, HY⟩ := hrel
    by_cases hlt : k < n
    · obtain ⟨b1, o1, x, rfl, hb1, hc1, hx⟩ := HI.out.at_ (k := k) (by rw [HEL.out]; exact hlt)
      obtain ⟨bj2, oj2, t, r, d2, u, rfl, hbj2, hj0, hj1, hj2, hj3, hxj⟩ := (HA.out.next H5.out).at_ (k := k) (by rw [HN.out]; exact hlt)
      have hkn : (k : Int) < (n : Int) := by omega
      have hxb := HBD.out k
      rw [hx.out] at hxb
      obtain ⟨hxb0, hxb1⟩ := hxb
      have hdb := HL.out.at_ k (by rw [HN.out]; exact hlt)
      rw [hxj.out] at hdb
      simp only [] at hdb
      obtain ⟨_, _, _, _, hdb0, hdb1, _, _⟩ := hdb
      have HYN : Hid ((if y < x - d2 then x - d2 else y) = rdelTo L ends (k + 1)) := by
        have e : (if y < x - d2 then x - d2 else y) = max y (x - d2) := by split <;> omega
        rw [e, rdelTo, ← HY.out, hx.out, hxj.out]; exact hide rfl
      clear hx hxj
      go_wp2
      go_round
      case rel => exact ⟨k + 1, _, by omega, by go_num, rfl, HYN⟩
      case measure => simp [intOf] <;> omega
    · obtain rfl : n = k := by omega
      have HY2 : Hid (y = delN L p) := by rw [HES.out, ← rdelTo_eq HL.out HBD.out n h1 (by rw [HN.out]; exact Nat.le_refl _)]; exact HY
      have e9 := HY2.out
      subst e9
      go_wp2
      go_ret
      exact ⟨rfl, H5.out⟩
end Go.Proofs.Ytiadineakhcclaa
