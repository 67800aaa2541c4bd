/-
  The reference's Valid.
-/
import Derived.Test.YtgognkofnegobaaRankSwap
import Derived.Test.YtgognkofnegobaaInfo
namespace Go.Proofs.Ytgognkofnegobaa
open Go.RowKit
set_option linter.unusedVariables false
set_option linter.unusedSimpArgs false

set_option maxHeartbeats 400000 in
theorem refValid_any (A : Option Addr) (n c B : Nat) (L : List (List Int)) (w : World) (hn : L.length = n) (hlen : n ≤ 9223372036854775807) (hrow : ∀ l ∈ L, l.length ≤ 9223372036854775807) (hA : RowsA w B A L) :
    Calls Try.prog 13 #[.slice A n c] w fun e w' => e = .returned (.bool (validB L)) ∧ w = w' := by
  generalize hid : validB L = r
  have HI := hide hid; clear hid
  have HN := hide hn; clear hn
  have HR := hide hrow; clear hrow
  go_enter Try.func13, Try.ntmps13
  go_wp2
  go_loop [7] (fun i => ∃ k : Nat, k ≤ n ∧ i = .int .i64 k ∧ Hid (∀ j : Nat, j < k → ordB (L.getD j []) n = true)) (fun i => n - (intOf i).toNat)
  case atStart => exact ⟨0, Nat.zero_le _, rfl, fun j hj => absurd hj (by omega)⟩
  case round =>
    obtain ⟨k, hk, rfl, hall⟩ := hrel
    by_cases hlt : k < n
    · have hkL : k < L.length := by rw [HN.out]; exact hlt
      obtain ⟨b, o, A', n', c', rfl, hb, hc, hx, hle, hI⟩ := hA.at_ hkL
      have HOR := hide (refIsOrder_any A' n' c' B n (L.getD k []) w hx.out (by rw [← hx.out]; exact HR.out _ (getD_mem hkL)) hlen hI)
      clear hI
      cases ho : ordB (L.getD k []) n
      · rw [ho] at HOR
        have HO := hide ho
        clear ho
        have hkL' := hide hkL
        clear hkL
        go_wp2_with (go_at_call 21; refine (HOR.out).mono ?_; rintro e w' ⟨rfl, rfl⟩)
        go_ret
        refine ⟨?_, rfl⟩
        have : validB L = false := by
          cases h : validB L with
          | false => rfl
          | true =>
            have h2 := (validB_iff.1 h).2 _ (getD_mem (d := []) hkL'.out)
            rw [HN.out, HO.out] at h2; cases h2
        rw [← HI.out, this]; rfl
      · rw [ho] at HOR
        have HO := hide ho
        clear ho hkL
        go_wp2_with (go_at_call 21; refine (HOR.out).mono ?_; rintro e w' ⟨rfl, rfl⟩)
        go_round
        case rel =>
          refine ⟨k + 1, by omega, by go_num, fun j hj => ?_⟩
          by_cases e : j = k
          · subst e; exact HO.out
          · exact hall.out j (by omega)
        case measure => simp [intOf]; omega
    · obtain rfl : n = k := by omega
      have e1 : Hid (r = decide (1 ≤ n ∧ n ≤ 5)) := by
        show r = _
        rw [← HI.out, validB, HN.out]
        have : (L.all fun l => ordB l n) = true := by
          rw [List.all_eq_true]
          intro l hl
          obtain ⟨j, hj, rfl⟩ := List.getElem_of_mem hl
          have := hall.out j (by rw [← HN.out]; exact hj)
          rwa [List.getD_eq_getElem?_getD, List.getElem?_eq_getElem hj] at this
        rw [this, Bool.and_true]
      by_cases h1 : 1 ≤ n
      · by_cases h5 : n ≤ 5
        · have hd : decide ((n : Int) ≤ 5) = true := by simp; omega
          go_wp2
          go_ret
          refine ⟨?_, rfl⟩
          rw [e1.out, decide_eq_true (p := 1 ≤ n ∧ n ≤ 5) ⟨h1, h5⟩]; rfl
        · have hd : decide ((n : Int) ≤ 5) = false := by simp; omega
          go_wp2
          go_ret
          refine ⟨?_, rfl⟩
          rw [e1.out, decide_eq_false (p := 1 ≤ n ∧ n ≤ 5) (by omega)]; rfl
      · go_wp2
        go_ret
        refine ⟨?_, rfl⟩
        rw [e1.out, decide_eq_false (p := 1 ≤ n ∧ n ≤ 5) (by omega)]; rfl

end Go.Proofs.Ytgognkofnegobaa
