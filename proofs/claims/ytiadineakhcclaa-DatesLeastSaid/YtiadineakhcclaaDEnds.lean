/-
  Ends in a row; Ends; list.
-/
import Derived.Test.YtiadineakhcclaaDOrd
import Derived.Test.YtiadineakhcclaaEqual
namespace Go.Proofs.Ytiadineakhcclaa
open Go.RowKit Go.Deep
set_option linter.unusedVariables false
set_option linter.unusedSimpArgs false

/-- When the k-th of a row ends; the ends of the first k. -/
def rowAt (L : List J4) (o : List Int) : Nat → Int
  | 0 => 0
  | k + 1 => rowAt L o k + (L.getD (o.getD k 0).toNat j0).t
def rowTo (L : List J4) (o : List Int) : Nat → List Int
  | 0 => List.replicate L.length 0
  | k + 1 => (rowTo L o k).set (o.getD k 0).toNat (rowAt L o (k + 1))
theorem rowTo_len (L : List J4) (o : List Int) : ∀ k, (rowTo L o k).length = L.length
  | 0 => by simp [rowTo]
  | k + 1 => by rw [rowTo, List.length_set]; exact rowTo_len L o k
def rowN (L : List J4) (o : List Int) : List Int := rowTo L o o.length
set_option maxRecDepth 100000 in
set_option maxHeartbeats 1600000 in
theorem jends_any (A : Option Addr) (n c : Nat) (L : List J4) (O : Option Addr) (m oc : Nat) (o : List Int) (w : World) (hn : L.length = n) (hL : JobsOk L) (hm : o.length = m) (hmm : m ≤ 60) (ho : ∀ x ∈ o, 0 ≤ x ∧ x < (n : Int)) (hA : JobsA w w.heap.size A L) (hO : IntsA w w.heap.size O o) :
    Calls Try.prog 62 #[.slice A n c, .slice O m oc] w fun e w' => ∃ X c', e = .returned (.slice X n c') ∧ n ≤ c' ∧ IntsA w' w'.heap.size X (rowTo L o m) ∧ Below w.heap.size w w' := by
  have h8 : n ≤ 8 := by rw [← hn]; exact hL.le
  have hmk := run_make_row' (P := Try.prog) 41 3 (.int .i64 0) 8 Try.underlying41 info_int rfl .i64 .i64 n (by omega) (by omega)
  obtain ⟨w1, hw1⟩ : ∃ w1, w1 = w.alloc (.cells (madeCells #[.int .i64 0] n) 3) := ⟨_, rfl⟩
  have HR1 : Hid (w1.rowIs w.heap.size 3 n (fun a => .int .i64 ((rowTo L o 0).getD a 0))) := by
    subst hw1
    refine (World.rowIs_made w (.int .i64 0) n _).congr fun a ha => ?_
    rw [rowTo, hn, List.getD_eq_getElem?_getD, List.getElem?_replicate, if_pos ha]; rfl
  have HB1 : Hid (Below w.heap.size w w1) := by subst hw1; exact (Below.refl _ _).alloc (Nat.le_refl _) _
  have HN := hide hn
  have HM := hide hm
  have HOB := hide ho
  have HL := hide hL
  have HA := hide hA
  have HO := hide hO
  clear hm ho hL hA hO hn
  go_enter Try.func62, Try.ntmps62
  go_wp2
  rw [← hw1]
  clear hw1 hmk
  go_loopw [6, 14] (fun v6 v wr => ∃ (k : Nat) (y : Int), k ≤ m ∧ v = .int .i64 k ∧ v6 = .int .i64 y ∧ 0 ≤ y ∧ y ≤ 20 * k ∧ Hid (y = rowAt L o k) ∧ Hid (wr.rowIs w.heap.size 3 n (fun a => .int .i64 ((rowTo L o k).getD a 0))) ∧ Below w.heap.size w wr) (fun _ v _ => m - (intOf v).toNat)
  case atStart => exact ⟨0, 0, Nat.zero_le _, rfl, rfl, by omega, by omega, hide rfl, HR1, HB1.out⟩
  case round =>
    obtain ⟨k, y, hk, rfl, rfl, hy0, hy1, HY, HR, hb⟩ := hrel
    have HB := hide hb
    by_cases hlt : k < m
    · obtain ⟨b2, o2, x, rfl, hb2, hc, hx⟩ := (HO.out.below hb).at_ (k := k) (by rw [HM.out]; exact hlt)
      have hxo := HOB.out x (by rw [← hx.out]; exact getD_mem (by rw [HM.out]; exact hlt))
      obtain ⟨i, rfl⟩ : ∃ i : Nat, x = i := ⟨x.toNat, by omega⟩
      have hi : i < n := by omega
      obtain ⟨bj, oj, t, r, d, u, rfl, hbj, hj0, hj1, hj2, hj3, hxj⟩ := (HA.out.below hb).at_ (k := i) (by rw [HN.out]; exact hi)
      have hkn : (k : Int) < (m : Int) := by omega
      have hin : (i : Int) < (n : Int) := by omega
      have htb := HL.out.at_ i (by rw [HN.out]; exact hi)
      rw [hxj.out] at htb
      simp only [] at htb
      obtain ⟨ht0, ht1, _⟩ := htb
      have hfz := HR.out.frozen i
      obtain ⟨v, hcr⟩ : ∃ v, wr.cell? ⟨w.heap.size, i, none⟩ = some v := ⟨_, HR.out.cell hi⟩
      have hs3 : w.heap.size < wr.heap.size := HR.out.lt
      have HY2 : Hid (y + t = rowAt L o (k + 1)) := by rw [rowAt, hx.out, Int.toNat_natCast, hxj.out, ← HY.out]; exact hide rfl
      have HX := hide hx.out
      clear hx hxj hb hxo
      go_wp2
      go_roundw
      case rel =>
        refine ⟨k + 1, _, by omega, by go_num, rfl, by omega, by omega, HY2, hide ((HR.out.set i _).congr fun a ha => ?_), HB.out.setCell (Nat.le_refl _) _⟩
        rw [rowTo, HX.out, Int.toNat_natCast, ← HY2.out]
        show (if a = i then Value.int .i64 (y + t) else Value.int .i64 ((rowTo L o k).getD a 0)) = Value.int .i64 (((rowTo L o k).set i (y + t)).getD a 0)
        rw [getD_set_i _ _ _ _ _ (by rw [rowTo_len, HN.out]; exact hi)]
        by_cases e : a = i
        · rw [if_pos e, if_pos e]
        · rw [if_neg e, if_neg e]
      case measure => simp [intOf] <;> omega
    · obtain rfl : m = k := by omega
      have HI := hide (ints_of_row HR.out (by rw [rowTo_len, HN.out]) (fun i hi => rfl))
      go_wp2
      go_ret
      exact ⟨_, n, rfl, Nat.le_refl _, HI.out, hb⟩
set_option maxRecDepth 100000 in
set_option maxHeartbeats 1600000 in
theorem refEnds_any (A : Option Addr) (n c : Nat) (L : List J4) (O : Option Addr) (m oc : Nat) (o : List Int) (w : World) (hn : L.length = n) (hL : JobsOk L) (hm : o.length = m) (hmm : m ≤ 60) (ho : ∀ x ∈ o, 0 ≤ x ∧ x < (n : Int)) (hA : JobsA w w.heap.size A L) (hO : IntsA w w.heap.size O o) :
    Calls Try.prog 31 #[.slice A n c, .slice O m oc] w fun e w' => ∃ X c', e = .returned (.slice X n c') ∧ n ≤ c' ∧ IntsA w' w'.heap.size X (rowTo L o m) ∧ Below w.heap.size w w' := by
  have h8 : n ≤ 8 := by rw [← hn]; exact hL.le
  have hmk := run_make_row' (P := Try.prog) 41 3 (.int .i64 0) 8 Try.underlying41 info_int rfl .i64 .i64 n (by omega) (by omega)
  obtain ⟨w1, hw1⟩ : ∃ w1, w1 = w.alloc (.cells (madeCells #[.int .i64 0] n) 3) := ⟨_, rfl⟩
  have HR1 : Hid (w1.rowIs w.heap.size 3 n (fun a => .int .i64 ((rowTo L o 0).getD a 0))) := by
    subst hw1
    refine (World.rowIs_made w (.int .i64 0) n _).congr fun a ha => ?_
    rw [rowTo, hn, List.getD_eq_getElem?_getD, List.getElem?_replicate, if_pos ha]; rfl
  have HB1 : Hid (Below w.heap.size w w1) := by subst hw1; exact (Below.refl _ _).alloc (Nat.le_refl _) _
  have HN := hide hn
  have HM := hide hm
  have HOB := hide ho
  have HL := hide hL
  have HA := hide hA
  have HO := hide hO
  clear hm ho hL hA hO hn
  go_enter Try.func31, Try.ntmps31
  go_wp2
  rw [← hw1]
  clear hw1 hmk
  go_loopw [6, 14] (fun v6 v wr => ∃ (k : Nat) (y : Int), k ≤ m ∧ v = .int .i64 k ∧ v6 = .int .i64 y ∧ 0 ≤ y ∧ y ≤ 20 * k ∧ Hid (y = rowAt L o k) ∧ Hid (wr.rowIs w.heap.size 3 n (fun a => .int .i64 ((rowTo L o k).getD a 0))) ∧ Below w.heap.size w wr) (fun _ v _ => m - (intOf v).toNat)
  case atStart => exact ⟨0, 0, Nat.zero_le _, rfl, rfl, by omega, by omega, hide rfl, HR1, HB1.out⟩
  case round =>
    obtain ⟨k, y, hk, rfl, rfl, hy0, hy1, HY, HR, hb⟩ := hrel
    have HB := hide hb
    by_cases hlt : k < m
    · obtain ⟨b2, o2, x, rfl, hb2, hc, hx⟩ := (HO.out.below hb).at_ (k := k) (by rw [HM.out]; exact hlt)
      have hxo := HOB.out x (by rw [← hx.out]; exact getD_mem (by rw [HM.out]; exact hlt))
      obtain ⟨i, rfl⟩ : ∃ i : Nat, x = i := ⟨x.toNat, by omega⟩
      have hi : i < n := by omega
      obtain ⟨bj, oj, t, r, d, u, rfl, hbj, hj0, hj1, hj2, hj3, hxj⟩ := (HA.out.below hb).at_ (k := i) (by rw [HN.out]; exact hi)
      have hkn : (k : Int) < (m : Int) := by omega
      have hin : (i : Int) < (n : Int) := by omega
      have htb := HL.out.at_ i (by rw [HN.out]; exact hi)
      rw [hxj.out] at htb
      simp only [] at htb
      obtain ⟨ht0, ht1, _⟩ := htb
      have hfz := HR.out.frozen i
      obtain ⟨v, hcr⟩ : ∃ v, wr.cell? ⟨w.heap.size, i, none⟩ = some v := ⟨_, HR.out.cell hi⟩
      have hs3 : w.heap.size < wr.heap.size := HR.out.lt
      have HY2 : Hid (y + t = rowAt L o (k + 1)) := by rw [rowAt, hx.out, Int.toNat_natCast, hxj.out, ← HY.out]; exact hide rfl
      have HX := hide hx.out
      clear hx hxj hb hxo
      go_wp2
      go_roundw
      case rel =>
        refine ⟨k + 1, _, by omega, by go_num, rfl, by omega, by omega, HY2, hide ((HR.out.set i _).congr fun a ha => ?_), HB.out.setCell (Nat.le_refl _) _⟩
        rw [rowTo, HX.out, Int.toNat_natCast, ← HY2.out]
        show (if a = i then Value.int .i64 (y + t) else Value.int .i64 ((rowTo L o k).getD a 0)) = Value.int .i64 (((rowTo L o k).set i (y + t)).getD a 0)
        rw [getD_set_i _ _ _ _ _ (by rw [rowTo_len, HN.out]; exact hi)]
        by_cases e : a = i
        · rw [if_pos e, if_pos e]
        · rw [if_neg e, if_neg e]
      case measure => simp [intOf] <;> omega
    · obtain rfl : m = k := by omega
      have HI := hide (ints_of_row HR.out (by rw [rowTo_len, HN.out]) (fun i hi => rfl))
      go_wp2
      go_ret
      exact ⟨_, n, rfl, Nat.le_refl _, HI.out, hb⟩
theorem IntsA.take {w : World} {B : Nat} {A : Option Addr} {l : List Int} (h : IntsA w B A l) (k : Nat) : IntsA w B A (l.take k) := by
  intro i hi
  simp only [List.length_take] at hi
  obtain ⟨b, o, e, hb, hc⟩ := h i (by omega)
  refine ⟨b, o, e, hb, ?_⟩
  rw [hc]
  simp only [List.getD_eq_getElem?_getD, List.getElem?_take]
  rw [if_pos (by omega)]

set_option maxHeartbeats 400000 in
theorem dlist_any (A : Option Addr) (n c B : Nat) (l : List Int) (w : World) (hn : l.length = n) (hc : n ≤ c) (hlen : n ≤ 9223372036854775807) (hA : IntsA w B A l) :
    Calls Try.prog 28 #[.slice A n c] w fun e w' => ∃ A' c', e = .returned (.slice A' (l.take 10).length c') ∧ (l.take 10).length ≤ c' ∧ IntsA w' w'.heap.size A' (l.take 10) ∧ Below w.heap.size w w' ∧
      (∀ g, (Value.slice A' (l.take 10).length c').ownBlock = some g → w.heap.size ≤ g) := by
  have hm : (l.take 10).length = min n 10 := by rw [List.length_take, hn, Nat.min_comm]
  generalize hk : (l.take 10).length = k
  have HC := hide (clone_any A k c B (l.take 10) w hk (by omega) (hA.take 10))
  have HN := hide hn
  have hkm : k = min n 10 := by omega
  clear hn hm hk
  rcases Nat.lt_or_ge 10 n with h7 | h7
  · obtain rfl : k = 10 := by omega
    clear hkm
    go_enter Try.func28, Try.ntmps28
    go_wp2_with (go_at_call 63; refine (HC.out).mono ?_; rintro e w' ⟨A', c', rfl, h1, h2, h3, h4, h5⟩; have H5 := hide h5; clear h5)
    go_ret
    exact ⟨A', c', rfl, h1, h2, h4, H5.out⟩
  · obtain rfl : n = k := by omega
    clear hkm
    go_enter Try.func28, Try.ntmps28
    go_wp2_with (go_at_call 63; refine (HC.out).mono ?_; rintro e w' ⟨A', c', rfl, h1, h2, h3, h4, h5⟩; have H5 := hide h5; clear h5)
    go_ret
    exact ⟨A', c', rfl, h1, h2, h4, H5.out⟩

set_option maxHeartbeats 800000 in
theorem ends_no (A : Option Addr) (n c : Nat) (L : List J4) (O : Option Addr) (m oc : Nat) (o : List Int) (w : World) (hn : L.length = n) (hlen : n ≤ 9223372036854775807) (hA : JobsA w w.heap.size A L) (hm : o.length = m) (hlm : m ≤ 9223372036854775807) (hO : IntsA w w.heap.size O o) (hv : jobsB L = false ∨ jobsB L = true ∧ ordB o n = false) :
    Calls Try.prog 27 #[.slice A n c, .slice O m oc] w fun e w' => e = .returned (.tuple #[.slice none 0 0, .int .i64 2]) ∧ Below w.heap.size w w' := by
  have HV := hide (jvalid_any A n c L w hn hlen hA)
  rcases hv with hv | ⟨hv, ho⟩
  · rw [hv] at HV
    clear hv hA hn hO hm
    go_enter Try.func27, Try.ntmps27
    go_wp2_with (first
      | (go_at_call 54; refine (HV.out).mono ?_; rintro e w1 ⟨rfl, hb1⟩; have HB1 := hide hb1; clear hb1))
    go_ret2
    exact ⟨rfl, HB1.out⟩
  · rw [hv] at HV
    have h8 : n ≤ 8 := by rw [← hn]; exact (jobsB_iff.1 hv).le
    have HOR := hide (fun w1 (hb : Below w.heap.size w w1) => jorder_any A c O m oc w1.heap.size n o w1 hm hlm (by omega) (hO.next hb))
    rw [ho] at HOR
    clear hv hA hn hO hm ho
    go_enter Try.func27, Try.ntmps27
    go_wp2_with (first
      | (go_at_call 54; refine (HV.out).mono ?_; rintro e w1 ⟨rfl, hb1⟩; have HB1 := hide hb1; clear hb1)
      | (go_at_call 61; refine (HOR.out _ HB1.out).mono ?_; rintro e w2 ⟨rfl, rfl⟩))
    go_ret2
    exact ⟨rfl, HB1.out⟩
set_option maxHeartbeats 800000 in
theorem ends_yes (A : Option Addr) (n c : Nat) (L : List J4) (O : Option Addr) (m oc : Nat) (o : List Int) (w : World) (hn : L.length = n) (hlen : n ≤ 9223372036854775807) (hA : JobsA w w.heap.size A L) (hm : o.length = m) (hlm : m ≤ 9223372036854775807) (hO : IntsA w w.heap.size O o) (hv : jobsB L = true) (ho : ordB o n = true) :
    Calls Try.prog 27 #[.slice A n c, .slice O m oc] w fun e w' => ∃ X c', e = .returned (.tuple #[.slice X n c', .int .i64 0]) ∧ n ≤ c' ∧ IntsA w' w'.heap.size X (rowN L o) ∧ Below w.heap.size w w' := by
  have HV := hide (jvalid_any A n c L w hn hlen hA)
  rw [hv] at HV
  have h8 : n ≤ 8 := by rw [← hn]; exact (jobsB_iff.1 hv).le
  have ho' := ordB_iff.1 ho
  have HOR := hide (fun w1 (hb : Below w.heap.size w w1) => jorder_any A c O m oc w1.heap.size n o w1 hm hlm (by omega) (hO.next hb))
  rw [ho] at HOR
  have HE := hide (fun w1 (hb : Below w.heap.size w w1) => jends_any A n c L O m oc o w1 hn (jobsB_iff.1 hv) hm (by omega) ho'.2.1 (hA.next hb) (hO.next hb))
  have HRN : Hid (rowTo L o m = rowN L o) := by rw [rowN, hm]; exact hide rfl
  rw [HRN.out] at HE
  clear hv hA hn hO hm ho ho'
  go_enter Try.func27, Try.ntmps27
  go_wp2_with (first
    | (go_at_call 54; refine (HV.out).mono ?_; rintro e w1 ⟨rfl, hb1⟩; have HB1 := hide hb1; clear hb1)
    | (go_at_call 61; refine (HOR.out _ HB1.out).mono ?_; rintro e w2 ⟨rfl, rfl⟩)
    | (go_at_call 62; refine (HE.out _ HB1.out).mono ?_; rintro e w3 ⟨X, c', rfl, hc', hI, hb3⟩; have HI := hide hI; have HB3 := hide (HB1.out.trans (hb3.mono HB1.out.size)); clear hI hb3))
  go_ret2
  exact ⟨X, c', rfl, hc', HI.out, HB3.out⟩
end Go.Proofs.Ytiadineakhcclaa
