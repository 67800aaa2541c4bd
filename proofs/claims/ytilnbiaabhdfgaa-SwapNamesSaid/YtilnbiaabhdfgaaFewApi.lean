/-
  What Trade and Rounds answer to the beginning of what came in.
-/
import Derived.Test.YtilnbiaabhdfgaaAwake
import Derived.Test.YtilnbiaabhdfgaaFewSwap
namespace Go.Proofs.Ytilnbiaabhdfgaa
open Go.RowKit
set_option linter.unusedVariables false
set_option linter.unusedSimpArgs false

theorem few_rows (L : List (List Int)) : ∀ l ∈ fewL L, l.length ≤ 9223372036854775807 := by
  intro l hl
  simp only [fewL, List.mem_map] at hl
  obtain ⟨x, _, rfl⟩ := hl
  simp only [List.length_take]; omega
theorem few_len (L : List (List Int)) : (fewL L).length ≤ 9223372036854775807 := by simp [fewL]; omega

/-- few, in whatever world comes: what it copies has q rows. -/
theorem few_in {w : World} {A : Option Addr} {n c q : Nat} {L : List (List Int)} (hn : L.length = n) (hlen : n ≤ 9223372036854775807) (hrow : ∀ l ∈ L, l.length ≤ 9223372036854775807) (hq : (fewL L).length = q) (hA : RowsA w w.heap.size A L) :
    ∀ w', Below w.heap.size w w' → Calls Try.prog 20 #[.slice A n c] w' fun e w'' => ∃ A' c', e = .returned (.slice A' q c') ∧ q ≤ c' ∧ RowsA w'' w''.heap.size A' (fewL L) ∧ Below w'.heap.size w' w'' := fun w' hw' => by
  rw [← hq]
  exact few_any A n c w.heap.size L w' hn hlen hrow (hA.below hw')
theorem fewTrade_no {q : Nat} {L : List (List Int)} (hq : (fewL L).length = q) (hv : validB L = false) (A' : Option Addr) (c' : Nat) (w1 : World) (h : RowsA w1 w1.heap.size A' (fewL L)) :
    Calls Try.prog 19 #[.slice A' q c'] w1 fun e w' => e = .returned (.tuple #[.slice none 0 0, .int .i64 2]) ∧ Below w1.heap.size w1 w' :=
  Trade_no A' q c' _ (fewL L) w1 hq (by rw [← hq]; exact few_len L) (few_rows L) h (by rw [few_valid]; exact hv)
theorem fewRounds_no {q : Nat} {L : List (List Int)} (hq : (fewL L).length = q) (hv : validB L = false) (A' : Option Addr) (c' : Nat) (w1 : World) (h : RowsA w1 w1.heap.size A' (fewL L)) :
    Calls Try.prog 23 #[.slice A' q c'] w1 fun e w' => e = .returned (.tuple #[.slice none 0 0, .int .i64 2]) ∧ Below w1.heap.size w1 w' :=
  Rounds_no A' q c' _ (fewL L) w1 hq (by rw [← hq]; exact few_len L) (few_rows L) h (by rw [few_valid]; exact hv)
theorem fewTrade_yes {n : Nat} {L : List (List Int)} (hn : L.length = n) (hv : validB L = true) (A' : Option Addr) (c' : Nat) (w1 : World) (h : RowsA w1 w1.heap.size A' (fewL L)) :
    Calls Try.prog 19 #[.slice A' n c'] w1 fun e w' => ∃ O co, e = .returned (.tuple #[.slice O n co, .int .i64 0]) ∧ IntsA w' w'.heap.size O (up (tradeN (toNN L))) ∧ Below w1.heap.size w1 w' := by
  rw [few_same hv] at h
  exact Trade_yes A' n c' _ L w1 hn h hv
theorem fewRounds_yes {n : Nat} {L : List (List Int)} (hn : L.length = n) (hv : validB L = true) (A' : Option Addr) (c' : Nat) (w1 : World) (h : RowsA w1 w1.heap.size A' (fewL L)) :
    Calls Try.prog 23 #[.slice A' n c'] w1 fun e w' => ∃ O co, e = .returned (.tuple #[.slice O n co, .int .i64 0]) ∧ IntsA w' w'.heap.size O (up (roundsN (toNN L))) ∧ Below w1.heap.size w1 w' := by
  rw [few_same hv] at h
  exact Rounds_yes A' n c' _ L w1 hn h hv
end Go.Proofs.Ytilnbiaabhdfgaa
