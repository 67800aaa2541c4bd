/-
  slices.IndexFunc and slices.ContainsFunc over ints, with a function value that may make memory.
-/
import Derived.Test.YtejijddfepgnkaaProg
import Derived.Test.YtejijddfepgnkaaBase
namespace Go.Proofs.Ytejijddfepgnkaa
set_option linter.unusedVariables false
set_option linter.unusedSimpArgs false
open Go.RowKit
set_option maxHeartbeats 800000 in
theorem indexFuncI_bel (fid : FuncId) (cap : Array Value) (A : Option Addr) (n c : Nat) (L : List Int) (p : Nat → Bool) (w : World) (hgo : Goes Try.prog fid) (hn : L.length = n) (hlen : n ≤ 9223372036854775807)
    (hA : IntsA w w.heap.size A L)
    (hF : ∀ k x w', k < n → L.getD k 0 = x → Below w.heap.size w w' → Calls Try.prog fid (#[.int .i64 x] ++ cap) w' fun e w'' => e = .returned (.bool (p k)) ∧ Below w'.heap.size w' w'') :
    Calls Try.prog 107 #[.slice A n c, .func (.func fid) #[] cap] w fun e w' => e = .returned (.int .i64 (fidx n p)) ∧ Below w.heap.size w w' := by
  subst hn
  generalize hid : fidx L.length p = r
  have HI := hide hid; clear hid
  go_enter Try.func107, Try.ntmps107
  go_wp2
  go_loopw [8] (fun i wr => ∃ k : Nat, k ≤ L.length ∧ i = .int .i64 k ∧ (∀ j, j < k → Hid (p j = false)) ∧ Below w.heap.size w wr) (fun i _ => L.length - (intOf i).toNat)
  case atStart => exact ⟨0, Nat.zero_le _, rfl, fun j hj => absurd hj (by omega), Below.refl _ _⟩
  case round =>
    obtain ⟨k, hk, rfl, hno, hbel⟩ := hrel
    by_cases hlt : k < L.length
    · obtain ⟨b, o, x, rfl, hb, hc, hx⟩ := (hA.below hbel).at_ hlt
      have hC := hF k x wr hlt hx.out hbel
      generalize hq : p k = q at hC
      have HQ := hide hq
      have HC := hide hC
      have HB := hide hbel
      clear hF hq hC hbel
      cases q
      · go_wp2_with ((with_reducible show wpList _ _ _ (⟨some 16, _, _, _, _, _⟩ :: _) _ _); refine wpList_callv1 fid cap _ _ _ _ rfl rfl rfl rfl hgo (HC.out.mono ?_); rintro e w' ⟨rfl, hbn⟩; have HBN := hide hbn; clear hbn; refine ⟨_, rfl, ?_⟩)
        go_roundw
        case rel =>
          refine ⟨k + 1, by omega, by go_num, fun j hj => ?_, HB.out.trans (HBN.out.mono HB.out.size)⟩
          by_cases e : j = k
          · subst e; exact HQ
          · exact hno j (by omega)
        case measure => simp [intOf]; omega
      · go_wp2_with ((with_reducible show wpList _ _ _ (⟨some 16, _, _, _, _, _⟩ :: _) _ _); refine wpList_callv1 fid cap _ _ _ _ rfl rfl rfl rfl hgo (HC.out.mono ?_); rintro e w' ⟨rfl, hbn⟩; have HBN := hide hbn; clear hbn; refine ⟨_, rfl, ?_⟩)
        go_ret
        refine ⟨?_, HB.out.trans (HBN.out.mono HB.out.size)⟩
        rw [← HI.out, fidx_found hlt HQ.out (fun j hj => (hno j hj).out)]
        rfl
    · go_wp2
      go_ret
      refine ⟨?_, hbel⟩
      rw [← HI.out, fidx_none (fun j hj => (hno j (by omega)).out)]
      rfl
set_option maxHeartbeats 400000 in
theorem containsFuncI_bel (fid : FuncId) (cap : Array Value) (A : Option Addr) (n c : Nat) (L : List Int) (p : Nat → Bool) (w : World) (hgo : Goes Try.prog fid) (hn : L.length = n) (hlen : n ≤ 9223372036854775807)
    (hA : IntsA w w.heap.size A L)
    (hF : ∀ k x w', k < n → L.getD k 0 = x → Below w.heap.size w w' → Calls Try.prog fid (#[.int .i64 x] ++ cap) w' fun e w'' => e = .returned (.bool (p k)) ∧ Below w'.heap.size w' w'') :
    Calls Try.prog 98 #[.slice A n c, .func (.func fid) #[] cap] w fun e w' => e = .returned (.bool (decide (0 ≤ fidx n p))) ∧ Below w.heap.size w w' := by
  have HC := hide (indexFuncI_bel fid cap A n c L p w hgo hn hlen hA hF)
  clear hF
  have HN := hide hn; clear hn
  generalize fidx n p = r at HC
  go_enter Try.func98, Try.ntmps98
  go_wp2_with (go_at_call 107; refine (HC.out).mono ?_; rintro e w' ⟨rfl, hb⟩; have HB := hide hb; clear hb)
  go_ret
  exact ⟨rfl, HB.out⟩
end Go.Proofs.Ytejijddfepgnkaa
