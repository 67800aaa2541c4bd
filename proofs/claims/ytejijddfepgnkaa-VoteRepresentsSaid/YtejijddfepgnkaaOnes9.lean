/-
  math/bits.OnesCount of sets below 512, and the program's count.
-/
import Derived.Test.YtejijddfepgnkaaProg
import Derived.Test.YtejijddfepgnkaaComPlain
namespace Go.Proofs.Ytejijddfepgnkaa
open Go.RowKit
set_option linter.unusedVariables false
set_option linter.unusedSimpArgs false

set_option maxHeartbeats 400000 in
theorem ones64_nine (M : Nat) (hM : M < 512) (w : World) : Calls Try.prog 113 #[.int .u64 M] w fun e w' => e = .returned (.int .i64 (cn M : Nat)) ∧ w = w' := by
  go_enter Try.func113, Try.ntmps113
  go_wp2
  go_ret
  refine ⟨?_, rfl⟩
  refine congrArg Ending.returned ?_
  show Value.int _ _ = Value.int _ _
  refine congrArg (Value.int .i64) ?_
  revert M
  decide +kernel
set_option maxHeartbeats 400000 in
theorem ones_nine (M : Nat) (hM : M < 512) (w : World) : Calls Try.prog 105 #[.int .u64 M] w fun e w' => e = .returned (.int .i64 (cn M : Nat)) ∧ w = w' := by
  have H := hide (ones64_nine M hM w)
  go_enter Try.func105, Try.ntmps105
  go_wp2_with (go_at_call 113; refine (H.out).mono ?_; rintro e w1 ⟨rfl, rfl⟩)
  go_ret
  exact ⟨rfl, rfl⟩
set_option maxHeartbeats 400000 in
theorem count_any (M : Nat) (hM : M < 512) (w : World) : Calls Try.prog 85 #[.int .i64 (M : Nat)] w fun e w' => e = .returned (.int .i64 (cn M : Nat)) ∧ w = w' := by
  have H := hide (ones_nine M hM w)
  go_enter Try.func85, Try.ntmps85
  go_wp2_with (go_at_call 105; refine (H.out).mono ?_; rintro e w1 ⟨rfl, rfl⟩)
  go_ret
  exact ⟨rfl, rfl⟩
end Go.Proofs.Ytejijddfepgnkaa
