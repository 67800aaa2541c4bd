/-
  The best set, plain: what the reference finds is what Best finds.
-/
import Derived.Test.YtejijddfepgnkaaStrPlain
namespace Go.Proofs.Ytejijddfepgnkaa
open Go.RowKit
set_option linter.unusedVariables false
set_option linter.unusedSimpArgs false

/-- How many bits of the first five. -/
def cnt5 (s : Nat) : Nat := (List.range 5).countP fun i => s.testBit i
theorem cnt5_low : ∀ s : Fin 32, 0 < s.val → cnt5 (s.val &&& (s.val - 1)) + 1 = cnt5 s.val ∧ s.val &&& (s.val - 1) < s.val := by decide +kernel
theorem cnt5_lt : ∀ s t : Fin 32, sdiff s.val t.val = 0 → s.val ≠ t.val → cnt5 s.val < cnt5 t.val := by decide +kernel
/-- A set that nothing outside does not lose to. -/
def Dom (M : Mat) (n s : Nat) : Prop := ∀ a, a < n → ∀ c, c < n → ClAt M s a c
theorem dom_rch {M : Mat} {n s x : Nat} (hd : Dom M n s) (hx : x < n) (hb : s.testBit x = true) {c : Nat} (h : Rch M n x c) : s.testBit c = true := by
  induction h with
  | here _ => exact hb
  | step h1 h2 h3 ih => exact hd _ h1.lt _ h2 ih h3
theorem setR_dom {M : Mat} {n x : Nat} : Dom M n (setR M n x) := fun a ha c hc h1 h2 => setR_bit.2 (.step (setR_bit.1 h1) hc h2)
/-- Of two such sets one is within the other. -/
theorem dom_chain {M : Mat} {n s t : Nat} (hM : Anti n M) (hs : Dom M n s) (ht : Dom M n t) (hsn : s < 2 ^ n) (htn : t < 2 ^ n) : sdiff s t = 0 ∨ sdiff t s = 0 := by
  refine Classical.byContradiction fun h => ?_
  have h1 : sdiff s t ≠ 0 := fun e => h (.inl e)
  have h2 : sdiff t s ≠ 0 := fun e => h (.inr e)
  obtain ⟨a, ha⟩ := exists_bit h1
  obtain ⟨c, hc⟩ := exists_bit h2
  rw [testBit_sdiff, Bool.and_eq_true, Bool.not_eq_true'] at ha hc
  have han := testBit_lt hsn ha.1
  have hcn := testBit_lt htn hc.1
  have g1 : ¬ M a c ≤ 0 := fun h9 => by
    have := hs a han c hcn ha.1 h9
    rw [hc.2] at this; cases this
  have g2 : ¬ M c a ≤ 0 := fun h9 => by
    have := ht c hcn a han hc.1 h9
    rw [ha.2] at this; cases this
  have := hM a c han hcn
  omega
theorem sdiff_sub {s t : Nat} : sdiff s t = 0 ↔ ∀ i, s.testBit i = true → t.testBit i = true := by
  constructor
  · intro h i hi
    have : (sdiff s t).testBit i = false := by rw [h, Nat.zero_testBit]
    rw [testBit_sdiff, hi] at this
    simpa using this
  · intro h
    apply Nat.eq_of_testBit_eq
    intro i
    rw [testBit_sdiff, Nat.zero_testBit]
    cases hs : s.testBit i with
    | false => rfl
    | true => rw [h i hs]; rfl
theorem bst_dom {M : Mat} {n m : Nat} (h1 : 1 ≤ m) (hm : m ≤ n) : Dom M n (bstN M n m) := by
  obtain ⟨x, _, e⟩ := bst_form (M := M) m h1 hm
  rw [e]; exact setR_dom
theorem bst_min {M : Mat} {n : Nat} (hM : Anti n M) : ∀ m, m ≤ n → ∀ x, x < m → sdiff (bstN M n m) (setR M n x) = 0
  | 0, _, x, h => absurd h (by omega)
  | m + 1, hm, x, hx => by
    rw [bstN]
    have hself : ∀ s, sdiff s s = 0 := fun s => sdiff_sub.2 fun i h => h
    by_cases h0 : sdiff (setR M n m) (bstN M n m) = 0
    · rw [if_pos h0]
      rcases (by omega : x < m ∨ x = m) with h | rfl
      · exact sdiff_sub.2 fun i hi => sdiff_sub.1 (bst_min hM m (by omega) x h) i (sdiff_sub.1 h0 i hi)
      · exact hself _
    · rw [if_neg h0]
      rcases (by omega : x < m ∨ x = m) with h | rfl
      · exact bst_min hM m (by omega) x h
      · rcases Nat.eq_zero_or_pos x with rfl | hp
        · exfalso; apply h0
          refine sdiff_sub.2 fun i hi => ?_
          show (2 ^ n - 1).testBit i = true
          rw [Nat.testBit_two_pow_sub_one, decide_eq_true (testBit_lt setR_lt hi)]
        · rcases dom_chain hM (setR_dom (M := M) (n := n) (x := x)) (bst_dom hp (by omega)) setR_lt (bstN_lt M n x) with h | h
          · exact absurd h h0
          · exact h
theorem best_min {M : Mat} {n s : Nat} (hM : Anti n M) (hs : Dom M n s) (h0 : s ≠ 0) (hlt : s < 2 ^ n) : sdiff (bestN M n) s = 0 := by
  obtain ⟨x, hx⟩ := exists_bit h0
  have hxn := testBit_lt hlt hx
  exact sdiff_sub.2 fun i hi => dom_rch hs hxn hx (setR_bit.1 (sdiff_sub.1 (bst_min hM n (Nat.le_refl _) x hxn) i hi))
theorem best_pos {M : Mat} {n : Nat} (hn : 1 ≤ n) : bestN M n ≠ 0 := by
  obtain ⟨x, hx, e⟩ := bst_form (M := M) n hn (Nat.le_refl _)
  rw [bestN, e]
  intro h0
  have : (setR M n x).testBit x = true := setR_bit.2 (.here hx)
  rw [h0, Nat.zero_testBit] at this
  cases this
/-- Where the reference's search stands before set s. -/
structure BestAt (M : Mat) (n s b : Nat) : Prop where
  dom : Dom M n b
  ne : b ≠ 0
  lt : b < 2 ^ n
  got : bestN M n < s → b = bestN M n
theorem best_at_start {M : Mat} {n : Nat} (hn : 1 ≤ n) : BestAt M n 1 (2 ^ n - 1) := by
  have h1 : 2 ^ 1 ≤ 2 ^ n := Nat.pow_le_pow_right (by decide) hn
  refine ⟨fun a ha c hc _ _ => by rw [Nat.testBit_two_pow_sub_one, decide_eq_true hc], by omega, by omega, fun h => ?_⟩
  have := best_pos (M := M) hn
  omega
theorem best_cnt {M : Mat} {n s : Nat} (hM : Anti n M) (hn5 : n ≤ 5) (hs : Dom M n s) (h0 : s ≠ 0) (hlt : s < 2 ^ n) (hne : s ≠ bestN M n) : cnt5 (bestN M n) < cnt5 s := by
  have h5 : 2 ^ n ≤ 2 ^ 5 := Nat.pow_le_pow_right (by decide) hn5
  have hb := bstN_lt M n n
  exact cnt5_lt ⟨bestN M n, by show bstN M n n < 32; omega⟩ ⟨s, by omega⟩ (best_min hM hs h0 hlt) (fun e => hne e.symm)
theorem best_at_yes {M : Mat} {n s b : Nat} (hM : Anti n M) (hn5 : n ≤ 5) (h : BestAt M n s b) (hs0 : 1 ≤ s) (hs : s < 2 ^ n) (hd : Dom M n s) (hc : cnt5 s < cnt5 b) : BestAt M n (s + 1) s := by
  refine ⟨hd, by omega, hs, fun h9 => ?_⟩
  refine Classical.byContradiction fun hne => ?_
  have := best_cnt hM hn5 hd (by omega) hs hne
  rw [h.got (by omega)] at hc
  omega
theorem best_at_no {M : Mat} {n s b : Nat} (hM : Anti n M) (hn1 : 1 ≤ n) (hn5 : n ≤ 5) (h : BestAt M n s b) (hs : s < 2 ^ n) (hno : ¬ (Dom M n s ∧ cnt5 s < cnt5 b)) : BestAt M n (s + 1) b := by
  refine ⟨h.dom, h.ne, h.lt, fun h9 => ?_⟩
  rcases (by omega : bestN M n < s ∨ bestN M n = s) with h1 | h1
  · exact h.got h1
  · refine Classical.byContradiction fun hne => hno ?_
    rw [← h1]
    exact ⟨bst_dom hn1 (Nat.le_refl _), best_cnt hM hn5 h.dom h.ne h.lt hne⟩
theorem best_at_end {M : Mat} {n b : Nat} (h : BestAt M n (2 ^ n) b) : b = bestN M n := h.got (bstN_lt M n n)
end Go.Proofs.Ytejijddfepgnkaa
