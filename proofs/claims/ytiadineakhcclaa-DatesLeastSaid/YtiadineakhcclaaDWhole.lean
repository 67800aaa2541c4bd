/-
  Plain: whole plans.
-/
import Derived.Test.YtiadineakhcclaaDPlain
namespace Go.Proofs.Ytiadineakhcclaa
open Go.RowKit Go.Deep
set_option linter.unusedVariables false
set_option linter.unusedSimpArgs false

/-- Piece k may stand behind the ones ahead of it. -/
structure OkPc (L : List J4) (p : List P3) (k : Nat) : Prop where
  ja : 0 ≤ (p.getD k p0).job
  jb : (p.getD k p0).job < L.length
  rel : (L.getD (p.getD k p0).job.toNat j0).r ≤ (p.getD k p0).fr
  lt : (p.getD k p0).fr < (p.getD k p0).to
  le : (p.getD k p0).to ≤ 1000
  prev : 0 < k → (p.getD (k - 1) p0).to ≤ (p.getD k p0).fr ∧ ((p.getD (k - 1) p0).to = (p.getD k p0).fr → (p.getD (k - 1) p0).job ≠ (p.getD k p0).job)
def doneTo (n : Nat) (p : List P3) : Nat → List Int
  | 0 => List.replicate n 0
  | k + 1 => (doneTo n p k).set (p.getD k p0).job.toNat ((doneTo n p k).getD (p.getD k p0).job.toNat 0 + ((p.getD k p0).to - (p.getD k p0).fr))
structure WholeP (L : List J4) (p : List P3) : Prop where
  pcs : ∀ k, k < p.length → OkPc L p k
  all : ∀ i, i < L.length → (doneTo L.length p p.length).getD i 0 = (L.getD i j0).t
noncomputable def wholeB (L : List J4) (p : List P3) : Bool := @decide (WholeP L p) (Classical.propDecidable _)
theorem wholeB_true {L : List J4} {p : List P3} (h : WholeP L p) : wholeB L p = true := @decide_eq_true _ (Classical.propDecidable _) h
theorem wholeB_false {L : List J4} {p : List P3} (h : ¬ WholeP L p) : wholeB L p = false := @decide_eq_false _ (Classical.propDecidable _) h
theorem wholeB_iff {L : List J4} {p : List P3} : wholeB L p = true ↔ WholeP L p := @decide_eq_true_iff _ (Classical.propDecidable _)
theorem doneTo_len (n : Nat) (p : List P3) : ∀ k, (doneTo n p k).length = n
  | 0 => by simp [doneTo]
  | k + 1 => by rw [doneTo, List.length_set]; exact doneTo_len n p k
/-- The last end so far. -/
def lastTo (p : List P3) (k : Nat) : Int := if k = 0 then 0 else (p.getD (k - 1) p0).to
theorem ok_from {L : List J4} (hL : JobsOk L) {p : List P3} {k : Nat} (h : OkPc L p k) : 0 ≤ (p.getD k p0).fr ∧ lastTo p k ≤ (p.getD k p0).fr := by
  have h1 := h.rel
  have h2 := (hL.at_ (p.getD k p0).job.toNat (by have := h.ja; have := h.jb; omega)).2.2.1
  refine ⟨by omega, ?_⟩
  rw [lastTo]
  split
  · omega
  · exact (h.prev (by omega)).1
theorem doneTo_bd {L : List J4} (hL : JobsOk L) {p : List P3} : ∀ k, (∀ j, j < k → OkPc L p j) → ∀ i, i < L.length → 0 ≤ (doneTo L.length p k).getD i 0 ∧ (doneTo L.length p k).getD i 0 ≤ lastTo p k
  | 0, _, i, hi => by
    rw [doneTo, List.getD_eq_getElem?_getD, List.getElem?_replicate, if_pos hi]
    exact ⟨Int.le_refl _, Int.le_refl _⟩
  | k + 1, h, i, hi => by
    have h1 := doneTo_bd hL k (fun j hj => h j (by omega))
    have hk := h k (by omega)
    have h2 := ok_from hL hk
    have h3 := hk.lt
    have hlast : lastTo p (k + 1) = (p.getD k p0).to := by rw [lastTo, if_neg (by omega)]; rfl
    rw [doneTo, getD_set_i _ _ _ _ _ (by rw [doneTo_len]; have := hk.ja; have := hk.jb; omega), hlast]
    split
    · have := h1 _ (show (p.getD k p0).job.toNat < L.length by have := hk.ja; have := hk.jb; omega)
      omega
    · have := h1 i hi
      omega
theorem lastTo_le {L : List J4} {p : List P3} : ∀ k, (∀ j, j < k → OkPc L p j) → lastTo p k ≤ 1000
  | 0, _ => by rw [lastTo, if_pos rfl]; omega
  | k + 1, h => by rw [lastTo, if_neg (by omega)]; exact (h k (by omega)).le
/-- The sum of what is done is at least the number of pieces. -/
theorem doneTo_sum {L : List J4} {p : List P3} : ∀ k, (∀ j, j < k → OkPc L p j) → (k : Int) ≤ sumT (doneTo L.length p k) L.length
  | 0, _ => by
    have := sumT_nonneg (t := doneTo L.length p 0) (n := L.length) (fun i hi => by rw [doneTo, List.getD_eq_getElem?_getD, List.getElem?_replicate, if_pos hi]; exact Int.le_refl _) L.length (Nat.le_refl _)
    simpa using this
  | k + 1, h => by
    have h1 := doneTo_sum k (fun j hj => h j (by omega))
    have hk := h k (by omega)
    have hj : (p.getD k p0).job.toNat < L.length := by have := hk.ja; have := hk.jb; omega
    rw [doneTo, sumT_set (by rw [doneTo_len]; exact hj), if_pos hj]
    have := hk.lt
    push_cast
    omega
theorem whole_len {L : List J4} (hL : JobsOk L) {p : List P3} (h : WholeP L p) : p.length ≤ 160 := by
  have h1 := doneTo_sum p.length h.pcs
  have h2 := sumT_le (t := doneTo L.length p p.length) (n := L.length) (m := 20) (fun i hi => by rw [h.all i hi]; exact (hL.at_ i hi).2.1) L.length (Nat.le_refl _)
  have := hL.le
  omega
theorem okPc_take {L : List J4} {p : List P3} {m k : Nat} (hk : k < m) (hm : m ≤ p.length) : OkPc L (p.take m) k ↔ OkPc L p k := by
  have e : ∀ j, j < m → (p.take m).getD j p0 = p.getD j p0 := fun j hj => by simp [List.getD_eq_getElem?_getD, List.getElem?_take, hj]
  have e1 := e k hk
  have e2 := e (k - 1) (by omega)
  constructor
  · intro h
    have a := h.ja; have b := h.jb; have c := h.rel; have d := h.lt; have f := h.le; have g := h.prev
    rw [e1] at a b c d f g
    rw [e2] at g
    exact ⟨a, b, c, d, f, g⟩
  · intro h
    refine ⟨?_, ?_, ?_, ?_, ?_, ?_⟩
    · rw [e1]; exact h.ja
    · rw [e1]; exact h.jb
    · rw [e1]; exact h.rel
    · rw [e1]; exact h.lt
    · rw [e1]; exact h.le
    · rw [e1, e2]; exact h.prev
theorem whole_take {L : List J4} (hL : JobsOk L) (p : List P3) : wholeB L (p.take 200) = wholeB L p := by
  by_cases h : p.length ≤ 200
  · rw [List.take_of_length_le h]
  · have h1 : wholeB L p = false := wholeB_false fun hw => by have := whole_len hL hw; omega
    have h2 : wholeB L (p.take 200) = false := wholeB_false fun hw => by have := whole_len hL hw; rw [List.length_take] at this; omega
    rw [h1, h2]
theorem whole_same {L : List J4} (hL : JobsOk L) {p : List P3} (h : wholeB L p = true) : p.take 200 = p := List.take_of_length_le (by have := whole_len hL (wholeB_iff.1 h); omega)
theorem whole_to {L : List J4} (hL : JobsOk L) {p : List P3} (h : WholeP L p) : p.length ≤ 160 ∧ ∀ q, q < p.length → 0 ≤ (p.getD q p0).job ∧ (p.getD q p0).job < L.length ∧ 0 ≤ (p.getD q p0).to ∧ (p.getD q p0).to ≤ 1000 :=
  ⟨whole_len hL h, fun q hq => by
    have h1 := h.pcs q hq
    have h2 := ok_from hL h1
    exact ⟨h1.ja, h1.jb, by have := h1.lt; omega, h1.le⟩⟩
end Go.Proofs.Ytiadineakhcclaa
