/-
  math/bits.OnesCount of small sets.
-/
import Derived.Test.YtilnbiaabhdfgaaProg
import Derived.Test.YtilnbiaabhdfgaaBase
namespace Go.Proofs.Ytilnbiaabhdfgaa
open Go.RowKit
set_option linter.unusedVariables false
set_option linter.unusedSimpArgs false

set_option maxHeartbeats 400000 in
theorem ones64_any (M : Nat) (hM : M < 32) (w : World) : Calls Try.prog 87 #[.int .u64 M] w fun e w' => e = .returned (.int .i64 (cardF 5 M : Nat)) ∧ w = w' := by
  go_enter Try.func87, Try.ntmps87
  go_wp2
  go_ret
  refine ⟨?_, rfl⟩
  refine congrArg Ending.returned ?_
  show Value.int _ _ = Value.int _ _
  refine congrArg (Value.int .i64) ?_
  revert M
  decide +kernel
set_option maxHeartbeats 400000 in
theorem ones_any (M : Nat) (hM : M < 32) (w : World) : Calls Try.prog 67 #[.int .u64 M] w fun e w' => e = .returned (.int .i64 (cardF 5 M : Nat)) ∧ w = w' := by
  have H := hide (ones64_any M hM w)
  go_enter Try.func67, Try.ntmps67
  go_wp2_with (go_at_call 87; refine (H.out).mono ?_; rintro e w1 ⟨rfl, rfl⟩)
  go_ret
  exact ⟨rfl, rfl⟩
end Go.Proofs.Ytilnbiaabhdfgaa
