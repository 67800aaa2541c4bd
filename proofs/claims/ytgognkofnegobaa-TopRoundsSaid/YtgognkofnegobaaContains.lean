/-
  slices.Contains over ints.
-/
import Derived.Test.YtgognkofnegobaaIndex
namespace Go.Proofs.Ytgognkofnegobaa
open Go.RowKit
set_option linter.unusedVariables false
set_option linter.unusedSimpArgs false

set_option maxHeartbeats 400000 in
theorem contains_any (A : Option Addr) (n c B : Nat) (l : List Int) (v : Int) (w : World) (hn : l.length = n) (hlen : n ≤ 9223372036854775807) (hA : IntsA w B A l) :
    Calls Try.prog 16 #[.slice A n c, .int .i64 v] w fun e w' => e = .returned (.bool (decide (v ∈ l))) ∧ w = w' := by
  have HC := hide (index_any A n c B l v w hn hlen hA)
  have e : decide (v ∈ l) = decide (0 ≤ idx l v) := by rw [Bool.eq_iff_iff]; simp [idx_nonneg]
  rw [e]
  clear e hn
  generalize idx l v = r at *
  go_enter Try.func16, Try.ntmps16
  go_wp2_with (go_at_call 19; refine (HC.out).mono ?_; rintro e w' ⟨rfl, rfl⟩)
  go_ret
  exact ⟨rfl, rfl⟩

end Go.Proofs.Ytgognkofnegobaa
