/-
  slices.IndexFunc over rows, with a function value that only reads.
-/
import Derived.Test.YtgognkofnegobaaProg
import Derived.Test.YtgognkofnegobaaBase
namespace Go.Proofs.Ytgognkofnegobaa
set_option linter.unusedVariables false
set_option linter.unusedSimpArgs false
open Go.RowKit
set_option maxHeartbeats 400000 in
theorem indexFuncV_any (fid : FuncId) (cap : Array Value) (A : Option Addr) (n c B : Nat) (L : List (List Int)) (p : Nat → Bool) (w : World) (hgo : Goes Try.prog fid) (hn : L.length = n) (hlen : n ≤ 9223372036854775807)
    (hA : RowsA w B A L)
    (hF : ∀ k, k < n → ∀ A' n' c', (L.getD k []).length = n' → n' ≤ c' → IntsA w B A' (L.getD k []) → Calls Try.prog fid (#[.slice A' n' c'] ++ cap) w fun e w' => e = .returned (.bool (p k)) ∧ w = w') :
    Calls Try.prog 96 #[.slice A n c, .func (.func fid) #[] cap] w fun e w' => e = .returned (.int .i64 (fidx n p)) ∧ w = w' := by
  subst hn
  generalize hid : fidx L.length p = r
  have HI := hide hid; clear hid
  go_enter Try.func96, Try.ntmps96
  go_wp2
  go_loop [8] (fun i => ∃ k : Nat, k ≤ L.length ∧ i = .int .i64 k ∧ ∀ j, j < k → Hid (p j = false)) (fun i => L.length - (intOf i).toNat)
  case atStart => exact ⟨0, Nat.zero_le _, rfl, fun j hj => absurd hj (by omega)⟩
  case round =>
    obtain ⟨k, hk, rfl, hno⟩ := hrel
    by_cases hlt : k < L.length
    · obtain ⟨b, o, A', n', c', rfl, hb, hc, hx, hle, hI⟩ := hA.at_ hlt
      have hC := hF k hlt A' n' c' hx.out hle hI
      generalize hq : p k = q at hC
      have HQ := hide hq
      have HC := hide hC
      clear hF hq hC
      cases q
      · go_wp2_with ((with_reducible show wpList _ _ _ (⟨some 16, _, _, _, _, _⟩ :: _) _ _); refine wpList_callv1 fid cap _ _ _ _ rfl rfl rfl rfl hgo (HC.out.mono ?_); rintro e w' ⟨rfl, rfl⟩; refine ⟨_, rfl, ?_⟩)
        go_round
        case rel =>
          refine ⟨k + 1, by omega, by go_num, fun j hj => ?_⟩
          by_cases e : j = k
          · subst e; exact HQ
          · exact hno j (by omega)
        case measure => simp [intOf]; omega
      · go_wp2_with ((with_reducible show wpList _ _ _ (⟨some 16, _, _, _, _, _⟩ :: _) _ _); refine wpList_callv1 fid cap _ _ _ _ rfl rfl rfl rfl hgo (HC.out.mono ?_); rintro e w' ⟨rfl, rfl⟩; refine ⟨_, rfl, ?_⟩)
        go_ret
        refine ⟨?_, rfl⟩
        rw [← HI.out, fidx_found hlt HQ.out (fun j hj => (hno j hj).out)]
        rfl
    · go_wp2
      go_ret
      refine ⟨?_, rfl⟩
      rw [← HI.out, fidx_none (fun j hj => (hno j (by omega)).out)]
      rfl
end Go.Proofs.Ytgognkofnegobaa
