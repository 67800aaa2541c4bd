/-
  slices.Contains over ints.
-/
import Derived.Test.YtejijddfepgnkaaIndex
namespace Go.Proofs.Ytejijddfepgnkaa
open Go.RowKit
set_option linter.unusedVariables false
set_option linter.unusedSimpArgs false

set_option maxHeartbeats 400000 in
theorem contains_any (A : Option Addr) (n c B : Nat) (l : List Int) (v : Int) (w : World) (hn : l.length = n) (hlen : n ≤ 9223372036854775807) (hA : IntsA w B A l) :
    Calls Try.prog 41 #[.slice A n c, .int .i64 v] w fun e w' => e = .returned (.bool (decide (v ∈ l))) ∧ w = w' := by
  have HC := hide (index_any A n c B l v w hn hlen hA)
  have e : decide (v ∈ l) = decide (0 ≤ idx l v) := by rw [Bool.eq_iff_iff]; simp [idx_nonneg]
  rw [e]
  clear e hn
  generalize idx l v = r at *
  go_enter Try.func41, Try.ntmps41
  go_wp2_with (go_at_call 26; refine (HC.out).mono ?_; rintro e w' ⟨rfl, rfl⟩)
  go_ret
  exact ⟨rfl, rfl⟩

end Go.Proofs.Ytejijddfepgnkaa
