/-
  dates: math/bits.OnesCount of sets below 256.
-/
import Derived.Test.YtiadineakhcclaaProg
import Derived.Test.YtiadineakhcclaaBase
namespace Go.Proofs.Ytiadineakhcclaa
open Go.RowKit
set_option linter.unusedVariables false
set_option linter.unusedSimpArgs false

set_option maxRecDepth 100000 in
set_option maxHeartbeats 1600000 in
theorem ones64_any (M : Nat) (hM : M < 256) (w : World) : Calls Try.prog 86 #[.int .u64 M] w fun e w' => e = .returned (.int .i64 (cardF 8 M : Nat)) ∧ w = w' := by
  go_enter Try.func86, Try.ntmps86
  go_wp2
  go_ret
  refine ⟨?_, rfl⟩
  refine congrArg Ending.returned ?_
  show Value.int _ _ = Value.int _ _
  refine congrArg (Value.int .i64) ?_
  revert M
  decide +kernel
set_option maxHeartbeats 400000 in
theorem ones_any (M : Nat) (hM : M < 256) (w : World) : Calls Try.prog 73 #[.int .u64 M] w fun e w' => e = .returned (.int .i64 (cardF 8 M : Nat)) ∧ w = w' := by
  have H := hide (ones64_any M hM w)
  go_enter Try.func73, Try.ntmps73
  go_wp2_with (go_at_call 86; refine (H.out).mono ?_; rintro e w1 ⟨rfl, rfl⟩)
  go_ret
  exact ⟨rfl, rfl⟩
set_option maxHeartbeats 400000 in
theorem most1_any (M : Nat) (hM : M < 256) (w : World) : Calls Try.prog 72 #[.int .i64 M] w fun e w' => e = .returned (.int .i64 (cardF 8 M : Nat)) ∧ w = w' := by
  have H := hide (ones_any M hM w)
  go_enter Try.func72, Try.ntmps72
  go_wp2_with (go_at_call 73; refine (H.out).mono ?_; rintro e w1 ⟨rfl, rfl⟩)
  go_ret
  exact ⟨rfl, rfl⟩
end Go.Proofs.Ytiadineakhcclaa
