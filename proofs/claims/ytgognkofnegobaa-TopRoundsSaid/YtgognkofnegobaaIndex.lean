/-
  slices.Index over ints: the first place, or -1.
-/
import Derived.Test.YtgognkofnegobaaProg
import Derived.Test.YtgognkofnegobaaBase
namespace Go.Proofs.Ytgognkofnegobaa
set_option linter.unusedVariables false
set_option linter.unusedSimpArgs false
open Go.RowKit
set_option maxHeartbeats 400000 in
theorem index_any (A : Option Addr) (n c B : Nat) (l : List Int) (v : Int) (w : World) (hn : l.length = n) (hlen : n ≤ 9223372036854775807) (hA : IntsA w B A l) :
    Calls Try.prog 19 #[.slice A n c, .int .i64 v] w fun e w' => e = .returned (.int .i64 (idx l v)) ∧ w = w' := by
  subst hn
  generalize hid : idx l v = r
  have HI := hide hid; clear hid
  go_enter Try.func19, Try.ntmps19
  go_wp2
  go_loop [8] (fun i => ∃ k : Nat, k ≤ l.length ∧ i = .int .i64 k ∧ ∀ j, j < k → Hid ((l.getD j 0 == v) = false)) (fun i => l.length - (intOf i).toNat)
  case atStart => exact ⟨0, Nat.zero_le _, rfl, fun j hj => absurd hj (by omega)⟩
  case round =>
    obtain ⟨k, hk, rfl, hno⟩ := hrel
    by_cases hlt : k < l.length
    · obtain ⟨b, o, x, rfl, hb, hc, hx⟩ := hA.at_ hlt
      by_cases he : v = x
      · have h1 : (v == x) = true := by simpa using he
        have HE := hide he; clear he
        go_wp2
        go_ret
        refine ⟨?_, rfl⟩
        rw [← HI.out, idx, fidx_found hlt (by rw [hx.out, HE.out]; simp) (fun j hj => (hno j hj).out)]
        rfl
      · have h1 : (v == x) = false := by simpa using he
        have HE : Hid (¬ v = x) := he
        clear he
        go_wp2
        go_round
        case rel =>
          refine ⟨k + 1, by omega, by go_num, fun j hj => ?_⟩
          by_cases e : j = k
          · subst e; show (_ == _) = false; rw [hx.out]; simp; exact fun h => HE.out h.symm
          · exact hno j (by omega)
        case measure => simp [intOf]; omega
    · go_wp2
      go_ret
      refine ⟨?_, rfl⟩
      rw [← HI.out, idx, fidx_none (fun j hj => (hno j (by omega)).out)]
      rfl
end Go.Proofs.Ytgognkofnegobaa
