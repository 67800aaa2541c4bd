/-
  Reading a matrix that came back as rows.
-/
import Derived.Test.YtejijddfepgnkaaRowsM
import Derived.Test.YtejijddfepgnkaaBase
namespace Go.Proofs.Ytejijddfepgnkaa
open Go.RowKit
set_option linter.unusedVariables false
set_option linter.unusedSimpArgs false

theorem rowsZ_get {M : Mat} {n a : Nat} (ha : a < n) : (rowsZ M n).getD a [] = rowZ M n a := by
  simp [rowsZ, List.getD_eq_getElem?_getD, ha]
theorem rowZ_get {M : Mat} {n a b : Nat} (hb : b < n) : (rowZ M n a).getD b 0 = M a b := by
  simp [rowZ, List.getD_eq_getElem?_getD, hb]
theorem rowsZ_length (M : Mat) (n : Nat) : (rowsZ M n).length = n := by simp [rowsZ]
/-- A number of the matrix that came back. -/
theorem mat_read {w : World} {B n a b : Nat} {X : Option Addr} {M : Mat} (h : RowsA w B X (rowsZ M n)) (ha : a < n) (hb : b < n) :
    ∃ bx ox ba oa ca, X = some ⟨bx, ox, none⟩ ∧ bx < B ∧ w.cell? ⟨bx, ox + a, none⟩ = some (.slice (some ⟨ba, oa, none⟩) n ca) ∧ ba < B ∧ w.cell? ⟨ba, oa + b, none⟩ = some (.int .i64 (M a b)) := by
  obtain ⟨bx, ox, A', n', c', hX, hbx, hc, hx, hle, hI⟩ := h.at_ (k := a) (by rw [rowsZ_length]; exact ha)
  rw [rowsZ_get ha] at hx hI
  obtain rfl : n = n' := by have := hx.out; rw [rowZ_len] at this; exact this
  obtain ⟨ba, oa, x, rfl, hba, hc2, hx2⟩ := hI.at_ (k := b) (by rw [rowZ_len]; exact hb)
  have := hx2.out
  rw [rowZ_get hb] at this
  exact ⟨bx, ox, ba, oa, c', hX, hbx, hc, hba, by rw [hc2, this]⟩
end Go.Proofs.Ytejijddfepgnkaa
