/-
  The first index with a property, and small facts on lists, without any program.
-/
namespace Go.Proofs.Ytilnbiaabhdfgaa
set_option linter.unusedVariables false
set_option linter.unusedSimpArgs false

/-- The first number below n with the property, or -1. -/
def fidx (n : Nat) (p : Nat → Bool) : Int := match (List.range n).find? p with
  | some i => i
  | none => -1
theorem find_range_some {n : Nat} {p : Nat → Bool} {i : Nat} : (List.range n).find? p = some i ↔ i < n ∧ p i = true ∧ ∀ j, j < i → p j = false := by
  rw [List.find?_eq_some_iff_getElem]
  constructor
  · rintro ⟨hp, k, hk, rfl, hall⟩
    simp only [List.length_range] at hk
    simp only [List.getElem_range] at *
    exact ⟨hk, hp, fun j hj => by have := hall j hj; simpa using this⟩
  · rintro ⟨hi, hp, hall⟩
    exact ⟨hp, i, by simpa using hi, by simp, fun j hj => by simpa using hall j hj⟩
theorem find_range_none {n : Nat} {p : Nat → Bool} : (List.range n).find? p = none ↔ ∀ j, j < n → p j = false := by
  simp [List.find?_eq_none]
theorem fidx_found {n : Nat} {p : Nat → Bool} {i : Nat} (hi : i < n) (hp : p i = true) (hno : ∀ j, j < i → p j = false) : fidx n p = i := by
  unfold fidx; rw [find_range_some.2 ⟨hi, hp, hno⟩]
theorem fidx_none {n : Nat} {p : Nat → Bool} (hno : ∀ j, j < n → p j = false) : fidx n p = -1 := by
  unfold fidx; rw [find_range_none.2 hno]
theorem fidx_cases (n : Nat) (p : Nat → Bool) : (∃ i, i < n ∧ fidx n p = (i : Int) ∧ p i = true ∧ ∀ j, j < i → p j = false) ∨ (fidx n p = -1 ∧ ∀ j, j < n → p j = false) := by
  cases h : (List.range n).find? p with
  | none => exact .inr ⟨fidx_none (find_range_none.1 h), find_range_none.1 h⟩
  | some i => obtain ⟨h1, h2, h3⟩ := find_range_some.1 h; exact .inl ⟨i, h1, fidx_found h1 h2 h3, h2, h3⟩
theorem fidx_bd (n : Nat) (p : Nat → Bool) : -1 ≤ fidx n p ∧ fidx n p < n := by
  rcases fidx_cases n p with ⟨i, hi, h, _⟩ | ⟨h, _⟩ <;> omega
theorem fidx_nonneg {n : Nat} {p : Nat → Bool} : 0 ≤ fidx n p ↔ ∃ i, i < n ∧ p i = true := by
  rcases fidx_cases n p with ⟨i, hi, h, hp, _⟩ | ⟨h, hno⟩
  · exact ⟨fun _ => ⟨i, hi, hp⟩, fun _ => by omega⟩
  · exact ⟨fun h' => by omega, fun ⟨i, hi, hp⟩ => by rw [hno i hi] at hp; cases hp⟩
theorem fidx_congr {n : Nat} {p q : Nat → Bool} (h : ∀ i, i < n → p i = q i) : fidx n p = fidx n q := by
  rcases fidx_cases n p with ⟨i, hi, e, hp, hno⟩ | ⟨e, hno⟩
  · rw [e, fidx_found hi (by rw [← h i hi]; exact hp) (fun j hj => by rw [← h j (by omega)]; exact hno j hj)]
  · rw [e, fidx_none (fun j hj => by rw [← h j hj]; exact hno j hj)]

/-- The place of x in l, or -1. -/
def idx (l : List Int) (x : Int) : Int := fidx l.length fun i => l.getD i 0 == x
theorem idx_nonneg {l : List Int} {x : Int} : 0 ≤ idx l x ↔ x ∈ l := by
  unfold idx
  rw [fidx_nonneg]
  constructor
  · rintro ⟨i, hi, h⟩
    rw [List.getD_eq_getElem?_getD, List.getElem?_eq_getElem hi] at h
    have : l[i] = x := by simpa using h
    exact this ▸ List.getElem_mem hi
  · intro h
    obtain ⟨i, hi, e⟩ := List.getElem_of_mem h
    exact ⟨i, hi, by simp [List.getElem?_eq_getElem hi, e]⟩
theorem getD_mem {α : Type} {l : List α} {j : Nat} {d : α} (h : j < l.length) : l.getD j d ∈ l := by
  rw [List.getD_eq_getElem?_getD, List.getElem?_eq_getElem h]; exact List.getElem_mem h
end Go.Proofs.Ytilnbiaabhdfgaa
