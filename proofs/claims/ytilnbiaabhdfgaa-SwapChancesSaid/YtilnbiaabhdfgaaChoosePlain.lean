/-
  Choosing in an order, plain.
-/
import Derived.Test.YtilnbiaabhdfgaaOrdersPlain
namespace Go.Proofs.Ytilnbiaabhdfgaa
open Go.RowKit
set_option linter.unusedVariables false
set_option linter.unusedSimpArgs false

/-- One after another takes the best thing that is left. -/
def chooseF (W : List (List Nat)) : List Nat → Nat → (Nat → Nat) → (Nat → Nat)
  | [], _, out => out
  | i :: rest, left, out => chooseF W rest (sdiff left (2 ^ best (W.getD i []) left)) (fun j => if j = i then best (W.getD i []) left else out j)
def chosen (W : List (List Nat)) (o : List Nat) : Nat → Nat := chooseF W o (2 ^ W.length - 1) (fun _ => 0)
def chooseN (W : List (List Nat)) (o : List Nat) : List Nat := listF W.length (chosen W o)

theorem cardF_full (n : Nat) : cardF n (2 ^ n - 1) = n := by
  have h : ∀ m, m ≤ n → cardF m (2 ^ n - 1) = m := by
    intro m
    induction m with
    | zero => intro _; rfl
    | succ m ih =>
      intro hm
      simp only [cardF, ih (by omega), full_bit, decide_eq_true (show m < n by omega), if_true]
  exact h n (Nat.le_refl _)
theorem cardF_pos {n M : Nat} (h : 0 < cardF n M) : ∃ i, i < n ∧ M.testBit i = true := by
  induction n with
  | zero => simp [cardF] at h
  | succ n ih =>
    simp only [cardF] at h
    cases hb : M.testBit n with
    | true => exact ⟨n, by omega, hb⟩
    | false =>
      rw [hb] at h
      obtain ⟨i, hi, hm⟩ := ih (by simpa using h)
      exact ⟨i, by omega, hm⟩
theorem cardF_drop {n M g : Nat} (hg : g < n) (hb : M.testBit g = true) : cardF n (sdiff M (2 ^ g)) + 1 = cardF n M := by
  have hbit : ∀ i, (sdiff M (2 ^ g)).testBit i = (M.testBit i && !decide (g = i)) := fun i => by rw [testBit_sdiff, Nat.testBit_two_pow]
  have low : ∀ m, m ≤ g → cardF m (sdiff M (2 ^ g)) = cardF m M := by
    intro m
    induction m with
    | zero => intro _; rfl
    | succ m ih => intro hm; simp only [cardF, ih (by omega), hbit, decide_eq_false (show ¬ g = m by omega), Bool.not_false, Bool.and_true]
  have high : ∀ m, g < m → cardF m (sdiff M (2 ^ g)) + 1 = cardF m M := by
    intro m
    induction m with
    | zero => intro h; omega
    | succ m ih =>
      intro hm
      by_cases e : m = g
      · subst e
        simp only [cardF, low m (Nat.le_refl _), hbit, hb, decide_true, Bool.not_true, Bool.and_false, Bool.false_eq_true, if_false, if_true]
      · have := ih (by omega)
        simp only [cardF, hbit, decide_eq_false (show ¬ g = m by omega), Bool.not_false, Bool.and_true]; omega
  exact high n hg
end Go.Proofs.Ytilnbiaabhdfgaa
