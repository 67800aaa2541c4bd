/-
  An order bends for nobody = everybody has a single peak; the axis that the search finds.
-/
import Derived.Test.YtejijddfepgnkaaAxisApi
import Derived.Test.YtejijddfepgnkaaPeakPlain
namespace Go.Proofs.Ytejijddfepgnkaa
open Go.RowKit
set_option linter.unusedVariables false
set_option linter.unusedSimpArgs false

theorem idx_at {o b : List Nat} {n i : Nat} (ho : Ord o n) (hb : Ord b n) (hi : i < n) : idx (up b) ((up o).getD i 0) = (place b (o.getD i 0) : Int) := by
  rw [up_getD]
  apply idx_up_mem
  rw [hb.mem, ← ho.mem, List.getD_eq_getElem?_getD, List.getElem?_eq_getElem (by rw [ho.len]; exact hi)]
  exact List.getElem_mem _

theorem bendAt_iff {o b : List Nat} {n j : Nat} (ho : Ord o n) (hb : Ord b n) (hj : j < n) :
    bendAt (up o) (up b) j = true ↔ (∃ i, i < j ∧ place b (o.getD i 0) < place b (o.getD j 0)) ∧ ∃ k, j < k ∧ k < n ∧ place b (o.getD k 0) < place b (o.getD j 0) := by
  unfold bendAt
  rw [Bool.and_eq_true, decide_eq_true_eq, decide_eq_true_eq, fidx_nonneg, fidx_nonneg, up_length, ho.len, idx_at ho hb hj]
  constructor
  · rintro ⟨⟨i, h1, h2⟩, ⟨k, h3, h4⟩⟩
    simp only [decide_eq_true_eq] at h2 h4
    rw [idx_at ho hb (by omega)] at h2 h4
    exact ⟨⟨i, h1, by omega⟩, ⟨j + 1 + k, by omega, by omega, by omega⟩⟩
  · rintro ⟨⟨i, h1, h2⟩, ⟨k, h3, h4, h5⟩⟩
    refine ⟨⟨i, h1, ?_⟩, ⟨k - (j + 1), by omega, ?_⟩⟩
    · simp only [decide_eq_true_eq]
      rw [idx_at ho hb (by omega)]
      omega
    · simp only [decide_eq_true_eq]
      rw [show j + 1 + (k - (j + 1)) = k by omega, idx_at ho hb h4]
      omega

theorem bend_iff {o b : List Nat} {n : Nat} (ho : Ord o n) (hb : Ord b n) : bendB (up o) (up b) = false ↔ Pkd o b n := by
  constructor
  · intro h i j k hij hjk hk hh
    have := bendB_yes (o := up o) (b := up b) (j := j) (by omega) (by rw [up_length, ho.len]; omega) ((bendAt_iff ho hb (by omega)).2 ⟨⟨i, hij, hh.1⟩, ⟨k, hjk, hk, hh.2⟩⟩)
    rw [this] at h
    exact absurd h (by simp)
  · intro h
    refine bendB_no fun j h1 h2 => ?_
    rw [up_length, ho.len] at h2
    cases hx : bendAt (up o) (up b) j with
    | false => rfl
    | true =>
      obtain ⟨⟨i, hi, g1⟩, ⟨k, hk, hkn, g2⟩⟩ := (bendAt_iff ho hb (by omega)).1 hx
      exact absurd ⟨g1, g2⟩ (h i j k hi hk hkn)

theorem axP_iff {W : List (List Nat)} {v n : Nat} {o : List Nat} (hW : BOk W v n) (ho : Ord o n) : axP W (List.range v) o = true ↔ ∀ i, i < v → Pkd o (W.getD i []) n := by
  have hr : ∀ i, i < v → (List.range v).getD i 0 = i := fun i hi => by
    rw [List.getD_eq_getElem?_getD, List.getElem?_range hi]; rfl
  unfold axP
  rw [Bool.not_eq_true', decide_eq_false_iff_not, fidx_nonneg, List.length_range]
  constructor
  · intro h i hi
    rw [← bend_iff ho (hW.rows i hi)]
    cases hx : bendB (up o) (up (W.getD i [])) with
    | false => rfl
    | true => exact absurd ⟨i, hi, by rw [hr i hi, hx]⟩ h
  · rintro h ⟨i, hi, hx⟩
    rw [hr i hi, (bend_iff ho (hW.rows i hi)).2 (h i hi)] at hx
    exact absurd hx (by simp)

theorem axN_eq (W : List (List Nat)) (v n : Nat) : axN W v n = (ordsN n).find? (axP W (List.range v)) := by
  rw [axN, axF, List.length_range, ordsG_range]
  rfl
theorem axN_some {W : List (List Nat)} {v n : Nat} {o : List Nat} (hW : BOk W v n) (h : axN W v n = some o) : Ord o n ∧ ∀ i, i < v → Pkd o (W.getD i []) n := by
  rw [axN_eq] at h
  have ho : Ord o n := mem_ordsN.1 (List.mem_of_find?_eq_some h)
  exact ⟨ho, (axP_iff hW ho).1 (List.find?_some h)⟩
theorem axN_none {W : List (List Nat)} {v n : Nat} {o : List Nat} (hW : BOk W v n) (h : axN W v n = none) (ho : Ord o n) : ¬ ∀ i, i < v → Pkd o (W.getD i []) n := by
  rw [axN_eq, List.find?_eq_none] at h
  exact fun hp => h o (mem_ordsN.2 ho) ((axP_iff hW ho).2 hp)
/-- The axis depends on the set of the ballots alone. -/
theorem axN_set {W V : List (List Nat)} {v u n : Nat} (hW : BOk W v n) (hV : BOk V u n) (h1 : ∀ i, i < v → ∃ j, j < u ∧ V.getD j [] = W.getD i []) (h2 : ∀ j, j < u → ∃ i, i < v ∧ W.getD i [] = V.getD j []) : axN W v n = axN V u n := by
  rw [axN_eq, axN_eq]
  have hc : ∀ o ∈ ordsN n, axP W (List.range v) o = axP V (List.range u) o := by
    intro o ho
    have ho' := mem_ordsN.1 ho
    have e : axP W (List.range v) o = true ↔ axP V (List.range u) o = true := by
      rw [axP_iff hW ho', axP_iff hV ho']
      constructor
      · intro h j hj
        obtain ⟨i, hi, e⟩ := h2 j hj
        rw [← e]; exact h i hi
      · intro h i hi
        obtain ⟨j, hj, e⟩ := h1 i hi
        rw [← e]; exact h j hj
    rw [Bool.eq_iff_iff]; exact e
  generalize ordsN n = L at hc
  induction L with
  | nil => rfl
  | cons a t ih =>
    rw [List.find?_cons, List.find?_cons, hc a (by simp), ih fun o ho => hc o (by simp [ho])]

end Go.Proofs.Ytejijddfepgnkaa
