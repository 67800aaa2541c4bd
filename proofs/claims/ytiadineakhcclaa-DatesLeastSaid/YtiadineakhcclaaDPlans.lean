/-
  dates: due, finished, delay, Plan, Delay, Short.
-/
import Derived.Test.YtiadineakhcclaaPlanD
import Derived.Test.YtiadineakhcclaaPlanS
namespace Go.Proofs.Ytiadineakhcclaa
open Go.RowKit
set_option linter.unusedVariables false
set_option linter.unusedSimpArgs false

set_option maxHeartbeats 800000 in
theorem due_any (A : Option Addr) (n c : Nat) (L : List J4) (w : World) (hn : L.length = n) (hL : JobsOk L) (hA : JobsA w w.heap.size A L) :
    Calls Try.prog 59 #[.slice A n c] w fun e w' => ∃ X m c', e = .returned (.slice X m c') ∧ (planN false L).length = m ∧ m ≤ c' ∧ PcsA w' w'.heap.size X (planN false L) ∧ Below w.heap.size w w' := by
  have HP := hide (planD_any A n c L w hn hL hA)
  clear hn hL hA
  go_enter Try.func59, Try.ntmps59
  go_wp2_with (go_at_call 55; refine (HP.out).mono ?_; rintro e w' ⟨X, m, c', rfl, h1, h2, h3, h4⟩; have H1 := hide h1; have H3 := hide h3; have H4 := hide h4; clear h1 h3 h4)
  go_ret
  exact ⟨X, m, c', rfl, H1.out, h2, H3.out, H4.out⟩

/-- Pieces whose jobs are jobs. -/
def PcOk (n : Nat) (p : List P3) : Prop := ∀ q, q < p.length → 0 ≤ (p.getD q p0).job ∧ (p.getD q p0).job < n
set_option maxHeartbeats 1600000 in
theorem finished_any (A : Option Addr) (n c : Nat) (P : Option Addr) (m pc : Nat) (p : List P3) (w : World) (hn : n ≤ 8) (hm : p.length = m) (hmm : m ≤ 9223372036854775807) (hok : PcOk n p) (hP : PcsA w w.heap.size P p) :
    Calls Try.prog 56 #[.slice A n c, .slice P m pc] w fun e w' => ∃ X c', e = .returned (.slice X n c') ∧ n ≤ c' ∧ IntsA w' w'.heap.size X (finN n p) ∧ Below w.heap.size w w' := by
  have hmk := run_make_row' (P := Try.prog) 41 3 (.int .i64 0) 8 Try.underlying41 info_int rfl .i64 .i64 n (by omega) (by omega)
  obtain ⟨w1, hw1⟩ : ∃ w1, w1 = w.alloc (.cells (madeCells #[.int .i64 0] n) 3) := ⟨_, rfl⟩
  have HR1 : Hid (w1.rowIs w.heap.size 3 n (fun a => .int .i64 ((finTo n p 0).getD a 0))) := by
    subst hw1
    refine (World.rowIs_made w (.int .i64 0) n _).congr fun a ha => ?_
    rw [finTo, List.getD_eq_getElem?_getD, List.getElem?_replicate, if_pos ha]; rfl
  have HB1 : Hid (Below w.heap.size w w1) := by subst hw1; exact (Below.refl _ _).alloc (Nat.le_refl _) _
  have HM := hide hm
  have HOK := hide hok
  have HP := hide hP
  have hmn : (0 : Int) ≤ n := by omega
  clear hm hok hP
  go_enter Try.func56, Try.ntmps56
  go_wp2
  rw [← hw1]
  clear hw1 hmk
  go_loopw [13] (fun v wr => ∃ k : Nat, k ≤ m ∧ v = .int .i64 k ∧ Hid (wr.rowIs w.heap.size 3 n (fun a => .int .i64 ((finTo n p k).getD a 0))) ∧ Below w.heap.size w wr) (fun v _ => m - (intOf v).toNat)
  case atStart => exact ⟨0, Nat.zero_le _, rfl, HR1, HB1.out⟩
  case round =>
    obtain ⟨k, hk, rfl, HR, hb⟩ := hrel
    have HB := hide hb
    by_cases hlt : k < m
    · obtain ⟨bj, oj, j, f, t, rfl, hbj, hc0, hc1, hc2, hx⟩ := (HP.out.below hb).at_ (k := k) (by rw [HM.out]; exact hlt)
      have hkn : (k : Int) < (m : Int) := by omega
      have hj := HOK.out k (by rw [HM.out]; exact hlt)
      rw [hx.out] at hj
      obtain ⟨i, rfl⟩ : ∃ i : Nat, j = i := ⟨j.toNat, by have := hj.1; simp only [] at this; omega⟩
      have hi : i < n := by have := hj.2; simp only [] at this; omega
      have hin : (i : Int) < (n : Int) := by omega
      have hfz := HR.out.frozen i
      have hcr : ∃ v, wr.cell? ⟨w.heap.size, i, none⟩ = some v := ⟨_, HR.out.cell hi⟩
      obtain ⟨v, hcr⟩ := hcr
      have hs3 : w.heap.size < wr.heap.size := HR.out.lt
      have HX := hide hx.out
      clear hx hb hj
      go_wp2
      go_roundw
      case rel =>
        refine ⟨k + 1, by omega, by go_num, hide (((HR.out.set i _).alloc _).congr fun a ha => ?_), (HB.out.setCell (Nat.le_refl _) _).alloc (by simp; exact HB.out.size) _⟩
        rw [finTo, HX.out]
        show (if a = i then Value.int .i64 t else Value.int .i64 ((finTo n p k).getD a 0)) = Value.int .i64 (((finTo n p k).set i t).getD a 0)
        rw [getD_set_i _ _ _ _ _ (by rw [finTo_len]; exact hi)]
        by_cases e : a = i
        · rw [if_pos e, if_pos e]
        · rw [if_neg e, if_neg e]
      case measure => simp [intOf] <;> omega
    · obtain rfl : m = k := by omega
      have HI := hide (ints_of_row HR.out (by rw [finTo_len]) (fun i hi => rfl))
      have HE : Hid (finTo n p m = finN n p) := by rw [finN, HM.out]; exact hide rfl
      go_wp2
      go_ret
      exact ⟨_, n, rfl, Nat.le_refl _, by rw [← HE.out]; exact HI.out, hb⟩

def delTo (L : List J4) (e : List Int) : Nat → Int
  | 0 => e.getD 0 0 - (L.getD 0 j0).d
  | k + 1 => max (delTo L e k) (e.getD k 0 - (L.getD k j0).d)
/-- The greatest delay. -/
def delN (L : List J4) (p : List P3) : Int := delTo L (finN L.length p) L.length
theorem delTo_bd {L : List J4} {e : List Int} (hL : JobsOk L) (he : ∀ i, 0 ≤ e.getD i 0 ∧ e.getD i 0 ≤ 1000) : ∀ k, k ≤ L.length → -200 ≤ delTo L e k ∧ delTo L e k ≤ 1000
  | 0, _ => by rw [delTo]; have := he 0; have := hL.at_ 0 hL.pos; omega
  | k + 1, hk => by rw [delTo]; have := delTo_bd hL he k (by omega); have := he k; have := hL.at_ k (by omega); omega
structure PlOk (n : Nat) (p : List P3) : Prop where
  len : p.length ≤ 1000
  job : PcOk n p
  to : ∀ q, q < p.length → 0 ≤ (p.getD q p0).to ∧ (p.getD q p0).to ≤ 1000
theorem planN_ok (sh : Bool) {L : List J4} (hL : JobsOk L) : PlOk L.length (planN sh L) := by
  have h := runP_ok sh hL 300
  exact ⟨by have := h.num; rw [planN]; omega, fun q hq => ⟨(h.pc q hq).1, (h.pc q hq).2.1⟩, fun q hq => by have h1 := h.pc q hq; constructor <;> (show _ ≤ _; rw [planN]; omega)⟩
theorem finN_bd {n : Nat} {p : List P3} (h : PlOk n p) (i : Nat) : 0 ≤ (finN n p).getD i 0 ∧ (finN n p).getD i 0 ≤ 1000 := finTo_bd (by omega) h.to _ (Nat.le_refl _) i

set_option maxHeartbeats 1600000 in
theorem delay_any (A : Option Addr) (n c : Nat) (L : List J4) (P : Option Addr) (m pc : Nat) (p : List P3) (w : World) (hn : L.length = n) (hL : JobsOk L) (hm : p.length = m) (hok : PlOk n p) (hA : JobsA w w.heap.size A L) (hP : PcsA w w.heap.size P p) :
    Calls Try.prog 60 #[.slice A n c, .slice P m pc] w fun e w' => e = .returned (.int .i64 (delN L p)) ∧ Below w.heap.size w w' := by
  have h8 : n ≤ 8 := by rw [← hn]; exact hL.le
  have h1 : 1 ≤ n := by rw [← hn]; exact hL.pos
  have HF := hide (finished_any A n c P m pc p w h8 hm (by have := hok.len; omega) hok.job hP)
  have HE := hide (finN_bd hok)
  have HN := hide hn
  have HL := hide hL
  have HA := hide hA
  have HD : Hid (delN L p = delTo L (finN n p) n) := by rw [← hn]; exact hide rfl
  have hel : (finN n p).length = n := finTo_len n p _
  have HEL := hide hel
  have hn0 : (0 : Int) < (n : Int) := by omega
  clear hn hL hm hok hA hP hel
  obtain ⟨ends, hends⟩ : ∃ ends, finN n p = ends := ⟨_, rfl⟩
  rw [hends] at HF HE HD HEL
  clear hends
  go_enter Try.func60, Try.ntmps60
  go_wp2_with (go_at_call 56; refine (HF.out).mono ?_; rintro e w1 ⟨X, c', rfl, hc', hI, hb⟩; have HI := hide hI; have HB := hide hb; clear hI hb)
  obtain ⟨b0, o0, x0, rfl, hb0, hc0, hx0⟩ := HI.out.at_ (k := 0) (by rw [HEL.out]; exact h1)
  obtain ⟨bj, oj, t, r, d, u, rfl, hbj, hj0, hj1, hj2, hj3, hxj⟩ := (HA.out.next HB.out).at_ (k := 0) (by rw [HN.out]; exact h1)
  rw [Nat.add_zero] at hc0
  rw [Nat.zero_mul, Nat.add_zero] at hj0 hj1 hj2 hj3
  have hxb := HE.out 0
  rw [hx0.out] at hxb
  obtain ⟨hxb0, hxb1⟩ := hxb
  have hdb := HL.out.at_ 0 (by rw [HN.out]; exact h1)
  rw [hxj.out] at hdb
  simp only [] at hdb
  obtain ⟨_, _, _, _, hdb0, hdb1, _, _⟩ := hdb
  have HD0 : Hid (x0 - d = delTo L ends 0) := by rw [delTo, hx0.out, hxj.out]; exact hide rfl
  have HS : Hid (IntKind.i64.wrap (x0 - d) = x0 - d) := by rw [IntKind.wrap_i64]; exact hide (by omega)
  have hs := HS.out
  clear hx0 hxj
  go_quiet (fail)
  clear hs hc0 hj0 hj1 hj2 hj3
  have HBD : Hid (∀ q, Below w1.heap.size w1 (w1.drewN q)) := fun q => below_drewN (Below.refl _ _) q
  go_wp2
  go_loopw [6, 22] (fun v6 v22 wr => ∃ (k : Nat) (y : Int), k ≤ n ∧ v22 = .int .i64 k ∧ v6 = .int .i64 y ∧ Hid (y = delTo L ends k) ∧ Below w1.heap.size w1 wr) (fun _ v _ => n - (intOf v).toNat)
  case atStart => exact ⟨0, _, Nat.zero_le _, rfl, rfl, HD0, HBD.out _⟩
  case round =>
    obtain ⟨k, y, hk, rfl, rfl, HY, hb2⟩ := hrel
    by_cases hlt : k < n
    · obtain ⟨b1, o1, x, e1, hb1, hc1, hx⟩ := (HI.out.next hb2).at_ (k := k) (by rw [HEL.out]; exact hlt)
      injection e1 with e1; injection e1 with e2 e3
      subst e2; subst e3
      obtain ⟨bj2, oj2, t, r, d2, u, e1, hbj2, hj0, hj1, hj2, hj3, hxj⟩ := ((HA.out.next HB.out).next hb2).at_ (k := k) (by rw [HN.out]; exact hlt)
      injection e1 with e1; injection e1 with e2 e3
      subst e2; subst e3
      have hkn : (k : Int) < (n : Int) := by omega
      have hxb := HE.out k
      rw [hx.out] at hxb
      obtain ⟨hxb0, hxb1⟩ := hxb
      have hdb := HL.out.at_ k (by rw [HN.out]; exact hlt)
      rw [hxj.out] at hdb
      simp only [] at hdb
      obtain ⟨_, _, _, _, hdb0, hdb1, _, _⟩ := hdb
      have HYN : Hid ((if y < x - d2 then x - d2 else y) = delTo L ends (k + 1)) := by
        have e : (if y < x - d2 then x - d2 else y) = max y (x - d2) := by split <;> omega
        rw [e, delTo, ← HY.out, hx.out, hxj.out]; exact hide rfl
      have HS : Hid (IntKind.i64.wrap (x - d2) = x - d2) := by rw [IntKind.wrap_i64]; exact hide (by omega)
      have HBW : Hid (∀ o q, Below w1.heap.size w1 ((wr.alloc o).drewN q)) := fun o q => below_drewN (hb2.alloc hb2.size _) q
      have hs := HS.out
      clear hx hxj hb2
      go_wp2
      go_quiet (fail)
      go_wp2
      go_roundw
      case rel => exact ⟨k + 1, _, by omega, by go_num, rfl, HYN, HBW.out _ _⟩
      case measure => simp [intOf] <;> omega
    · obtain rfl : n = k := by omega
      have HYE : Hid (y = delN L p) := by rw [HD.out]; exact HY.out
      have e9 := HYE.out
      subst e9
      have HB9 := hide (HB.out.trans (hb2.mono HB.out.size))
      clear hb2
      go_wp2
      go_ret
      exact ⟨rfl, HB9.out⟩
end Go.Proofs.Ytiadineakhcclaa
