/-
  The reference's Valid.
-/
import Derived.Test.YtiadineakhcclaaDValid
namespace Go.Proofs.Ytiadineakhcclaa
open Go.RowKit Go.Deep
set_option linter.unusedVariables false
set_option linter.unusedSimpArgs false

set_option maxRecDepth 100000 in
set_option maxHeartbeats 3200000 in
theorem drefvalid_any (A : Option Addr) (n c : Nat) (L : List J4) (w : World) (hn : L.length = n) (hlen : n ≤ 9223372036854775807) (hA : JobsA w w.heap.size A L) :
    Calls Try.prog 19 #[.slice A n c] w fun e w' => e = .returned (.bool (jobsB L)) ∧ Below w.heap.size w w' := by
  have HN := hide hn
  have HA := hide hA
  clear hn hA
  go_enter Try.func19, Try.ntmps19
  go_wp2
  go_loopw [7] (fun i wr => ∃ k : Nat, k ≤ n ∧ i = .int .i64 k ∧ Hid (∀ j, j < k → jobB (L.getD j j0) = true) ∧ Below w.heap.size w wr) (fun i _ => n - (intOf i).toNat)
  case atStart => exact ⟨0, Nat.zero_le _, rfl, fun j hj => absurd hj (by omega), Below.refl _ _⟩
  case round =>
    obtain ⟨k, hk, rfl, HNO, hb⟩ := hrel
    by_cases hlt : k < n
    · obtain ⟨bj, oj, t, r, d, u, rfl, hbj, hc0, hc1, hc2, hc3, hx⟩ := (HA.out.below hb).at_ (k := k) (by rw [HN.out]; exact hlt)
      have HX := hide hx.out
      have hkn : (k : Int) < (n : Int) := by omega
      have HBA : Hid (∀ o, Below w.heap.size w (wr.alloc o)) := fun o => hb.alloc hb.size _
      clear hb hx
      by_cases c0 : t < 1
      · have d0 : decide (t < 1) = true := decide_eq_true c0
        have HJ : Hid (jobB ⟨t, r, d, u⟩ = false) := decide_eq_false (fun h => by simp only [] at h; omega)
        have HF : Hid (jobsB L = false) := by rw [jobsB, show L.all jobB = false from Classical.byContradiction fun h => by rw [Bool.not_eq_false, List.all_eq_true] at h; have := h _ (getD_mem (l := L) (j := k) (d := j0) (by rw [HN.out]; exact hlt)); rw [HX.out, HJ.out] at this; exact absurd this (by simp), Bool.and_false]; exact hide rfl
        go_wp2
        go_ret
        exact ⟨by rw [HF.out]; rfl, HBA.out _⟩
      · have n0 : 1 ≤ t := by omega
        have d0 : decide (t < 1) = false := decide_eq_false c0
        by_cases c1 : 20 < t
        · have d1 : decide (20 < t) = true := decide_eq_true c1
          have HJ : Hid (jobB ⟨t, r, d, u⟩ = false) := decide_eq_false (fun h => by simp only [] at h; omega)
          have HF : Hid (jobsB L = false) := by rw [jobsB, show L.all jobB = false from Classical.byContradiction fun h => by rw [Bool.not_eq_false, List.all_eq_true] at h; have := h _ (getD_mem (l := L) (j := k) (d := j0) (by rw [HN.out]; exact hlt)); rw [HX.out, HJ.out] at this; exact absurd this (by simp), Bool.and_false]; exact hide rfl
          go_wp2
          go_ret
          exact ⟨by rw [HF.out]; rfl, HBA.out _⟩
        · have n1 : t ≤ 20 := by omega
          have d1 : decide (20 < t) = false := decide_eq_false c1
          by_cases c2 : r < 0
          · have d2 : decide (r < 0) = true := decide_eq_true c2
            have HJ : Hid (jobB ⟨t, r, d, u⟩ = false) := decide_eq_false (fun h => by simp only [] at h; omega)
            have HF : Hid (jobsB L = false) := by rw [jobsB, show L.all jobB = false from Classical.byContradiction fun h => by rw [Bool.not_eq_false, List.all_eq_true] at h; have := h _ (getD_mem (l := L) (j := k) (d := j0) (by rw [HN.out]; exact hlt)); rw [HX.out, HJ.out] at this; exact absurd this (by simp), Bool.and_false]; exact hide rfl
            go_wp2
            go_ret
            exact ⟨by rw [HF.out]; rfl, HBA.out _⟩
          · have n2 : 0 ≤ r := by omega
            have d2 : decide (r < 0) = false := decide_eq_false c2
            by_cases c3 : 100 < r
            · have d3 : decide (100 < r) = true := decide_eq_true c3
              have HJ : Hid (jobB ⟨t, r, d, u⟩ = false) := decide_eq_false (fun h => by simp only [] at h; omega)
              have HF : Hid (jobsB L = false) := by rw [jobsB, show L.all jobB = false from Classical.byContradiction fun h => by rw [Bool.not_eq_false, List.all_eq_true] at h; have := h _ (getD_mem (l := L) (j := k) (d := j0) (by rw [HN.out]; exact hlt)); rw [HX.out, HJ.out] at this; exact absurd this (by simp), Bool.and_false]; exact hide rfl
              go_wp2
              go_ret
              exact ⟨by rw [HF.out]; rfl, HBA.out _⟩
            · have n3 : r ≤ 100 := by omega
              have d3 : decide (100 < r) = false := decide_eq_false c3
              by_cases c4 : d < 0
              · have d4 : decide (d < 0) = true := decide_eq_true c4
                have HJ : Hid (jobB ⟨t, r, d, u⟩ = false) := decide_eq_false (fun h => by simp only [] at h; omega)
                have HF : Hid (jobsB L = false) := by rw [jobsB, show L.all jobB = false from Classical.byContradiction fun h => by rw [Bool.not_eq_false, List.all_eq_true] at h; have := h _ (getD_mem (l := L) (j := k) (d := j0) (by rw [HN.out]; exact hlt)); rw [HX.out, HJ.out] at this; exact absurd this (by simp), Bool.and_false]; exact hide rfl
                go_wp2
                go_ret
                exact ⟨by rw [HF.out]; rfl, HBA.out _⟩
              · have n4 : 0 ≤ d := by omega
                have d4 : decide (d < 0) = false := decide_eq_false c4
                by_cases c5 : 200 < d
                · have d5 : decide (200 < d) = true := decide_eq_true c5
                  have HJ : Hid (jobB ⟨t, r, d, u⟩ = false) := decide_eq_false (fun h => by simp only [] at h; omega)
                  have HF : Hid (jobsB L = false) := by rw [jobsB, show L.all jobB = false from Classical.byContradiction fun h => by rw [Bool.not_eq_false, List.all_eq_true] at h; have := h _ (getD_mem (l := L) (j := k) (d := j0) (by rw [HN.out]; exact hlt)); rw [HX.out, HJ.out] at this; exact absurd this (by simp), Bool.and_false]; exact hide rfl
                  go_wp2
                  go_ret
                  exact ⟨by rw [HF.out]; rfl, HBA.out _⟩
                · have n5 : d ≤ 200 := by omega
                  have d5 : decide (200 < d) = false := decide_eq_false c5
                  by_cases c6 : u < 0
                  · have d6 : decide (u < 0) = true := decide_eq_true c6
                    have HJ : Hid (jobB ⟨t, r, d, u⟩ = false) := decide_eq_false (fun h => by simp only [] at h; omega)
                    have HF : Hid (jobsB L = false) := by rw [jobsB, show L.all jobB = false from Classical.byContradiction fun h => by rw [Bool.not_eq_false, List.all_eq_true] at h; have := h _ (getD_mem (l := L) (j := k) (d := j0) (by rw [HN.out]; exact hlt)); rw [HX.out, HJ.out] at this; exact absurd this (by simp), Bool.and_false]; exact hide rfl
                    go_wp2
                    go_ret
                    exact ⟨by rw [HF.out]; rfl, HBA.out _⟩
                  · have n6 : 0 ≤ u := by omega
                    have d6 : decide (u < 0) = false := decide_eq_false c6
                    by_cases c7 : 20 < u
                    · have d7 : decide (20 < u) = true := decide_eq_true c7
                      have HJ : Hid (jobB ⟨t, r, d, u⟩ = false) := decide_eq_false (fun h => by simp only [] at h; omega)
                      have HF : Hid (jobsB L = false) := by rw [jobsB, show L.all jobB = false from Classical.byContradiction fun h => by rw [Bool.not_eq_false, List.all_eq_true] at h; have := h _ (getD_mem (l := L) (j := k) (d := j0) (by rw [HN.out]; exact hlt)); rw [HX.out, HJ.out] at this; exact absurd this (by simp), Bool.and_false]; exact hide rfl
                      go_wp2
                      go_ret
                      exact ⟨by rw [HF.out]; rfl, HBA.out _⟩
                    · have n7 : u ≤ 20 := by omega
                      have d7 : decide (20 < u) = false := decide_eq_false c7
                      have HJ : Hid (jobB ⟨t, r, d, u⟩ = true) := decide_eq_true (by simp only []; omega)
                      clear n0 n1 n2 n3 n4 n5 n6 n7
                      go_wp2
                      go_roundw
                      case rel =>
                        refine ⟨k + 1, by omega, by go_num, fun j hj => ?_, HBA.out _⟩
                        by_cases e : j = k
                        · subst e; rw [HX.out]; exact HJ.out
                        · exact HNO.out j (by omega)
                      case measure => simp [intOf] <;> omega
    · obtain rfl : n = k := by omega
      have HAL : Hid (L.all jobB = true) := by
        rw [List.all_eq_true]
        intro x hx
        obtain ⟨i, hi, rfl⟩ := List.getElem_of_mem hx
        rw [getD_cons_of (d := j0) hi]
        exact HNO.out i (by rw [← HN.out]; exact hi)
      have HE : Hid (jobsB L = (decide (1 ≤ n) && decide (n ≤ 8))) := by
        rw [jobsB, HAL.out, HN.out, Bool.and_true, Bool.decide_and]; exact hide rfl
      by_cases h1 : 1 ≤ n
      · have d1 : decide ((1 : Int) ≤ (n : Int)) = true := decide_eq_true (by omega)
        by_cases h2 : n ≤ 8
        · have d2 : decide ((n : Int) ≤ 8) = true := decide_eq_true (by omega)
          have HE2 : Hid (jobsB L = true) := by rw [HE.out, decide_eq_true h1, decide_eq_true h2]; exact hide rfl
          go_wp2
          go_ret
          exact ⟨by rw [HE2.out]; rfl, hb⟩
        · have d2 : decide ((n : Int) ≤ 8) = false := decide_eq_false (by omega)
          have HE2 : Hid (jobsB L = false) := by rw [HE.out, decide_eq_false h2, Bool.and_false]; exact hide rfl
          go_wp2
          go_ret
          exact ⟨by rw [HE2.out]; rfl, hb⟩
      · have d1 : decide ((1 : Int) ≤ (n : Int)) = false := decide_eq_false (by omega)
        have HE2 : Hid (jobsB L = false) := by rw [HE.out, decide_eq_false h1, Bool.false_and]; exact hide rfl
        go_wp2
        go_ret
        exact ⟨by rw [HE2.out]; rfl, hb⟩
end Go.Proofs.Ytiadineakhcclaa
