/-
  'All numbers below n, each once', on lists, and sets of small numbers as the bits of a Nat. Without any program.
-/
import Derived.Test.YtilnbiaabhdfgaaMem
namespace Go.Proofs.Ytilnbiaabhdfgaa
set_option linter.unusedVariables false
set_option linter.unusedSimpArgs false
open Go.RowKit

/-- l is all numbers below n, each once. -/
def ordB (l : List Int) (n : Nat) : Bool := decide (l.length = n) && l.all (fun x => decide (0 ≤ x ∧ x < n)) && (List.range n).all fun x => l.contains (x : Int)
theorem ordB_iff {l : List Int} {n : Nat} : ordB l n = true ↔ l.length = n ∧ (∀ x ∈ l, 0 ≤ x ∧ x < n) ∧ ∀ x : Nat, x < n → (x : Int) ∈ l := by
  simp only [ordB, Bool.and_eq_true, decide_eq_true_eq, List.all_eq_true, List.mem_range, List.contains_iff_mem, and_assoc]

/-- M has just the numbers of l. -/
def MaskOf (M : Nat) (l : List Int) : Prop := ∀ i : Nat, M.testBit i = decide ((i : Int) ∈ l)
theorem maskOf_nil : MaskOf 0 [] := fun i => by simp
theorem maskOf_snoc {M : Nat} {l : List Int} (h : MaskOf M l) (x : Nat) : MaskOf (M ||| 2 ^ x) (l ++ [(x : Int)]) := fun i => by
  rw [Nat.testBit_or, h i, Nat.testBit_two_pow]
  simp only [List.mem_append, List.mem_singleton, Bool.decide_or]
  congr 1
  by_cases e : x = i
  · subst e; simp
  · rw [decide_eq_false e, decide_eq_false (by omega)]
theorem maskOf_lt {M m : Nat} {l : List Int} (h : MaskOf M l) (hl : ∀ x ∈ l, 0 ≤ x ∧ x < (m : Int)) : M < 2 ^ m := by
  apply Nat.lt_pow_two_of_testBit
  intro i hi
  rw [h i]
  simp only [decide_eq_false_iff_not]
  intro hm
  have := hl _ hm
  omega
theorem maskOf_full {M m : Nat} {l : List Int} (h : MaskOf M l) (hl : ∀ x ∈ l, 0 ≤ x ∧ x < (m : Int)) : M = 2 ^ m - 1 ↔ ∀ x : Nat, x < m → (x : Int) ∈ l := by
  constructor
  · intro e x hx
    have := h x
    rw [e, Nat.testBit_two_pow_sub_one] at this
    simp only [hx, decide_true] at this
    exact of_decide_eq_true this.symm
  · intro hall
    apply Nat.eq_of_testBit_eq
    intro i
    rw [h i, Nat.testBit_two_pow_sub_one]
    by_cases hi : i < m
    · rw [decide_eq_true hi, decide_eq_true (hall i hi)]
    · rw [decide_eq_false hi, decide_eq_false (fun hm => by have := hl _ hm; omega)]
theorem take_snoc_int (l : List Int) (k : Nat) (h : k < l.length) : l.take (k + 1) = l.take k ++ [l.getD k 0] := by
  rw [List.take_succ_eq_append_getElem h, List.getD_eq_getElem?_getD, List.getElem?_eq_getElem h]; rfl
/-- 1<<m - 1. -/
theorem full_nat (m : Nat) (h : m < 62) : wrap64 (wrap64 (2 ^ m) - 1) = ((2 ^ m - 1 : Nat) : Int) := by
  have h1 : (2 : Nat) ^ m < 2 ^ 62 := Nat.pow_lt_pow_right (by decide) h
  have h2 : 0 < 2 ^ m := Nat.two_pow_pos m
  rw [shl_one m h, show ((2 ^ m : Nat) : Int) - 1 = ((2 ^ m - 1 : Nat) : Int) from by omega, wrapNat _ (by omega)]
end Go.Proofs.Ytilnbiaabhdfgaa
