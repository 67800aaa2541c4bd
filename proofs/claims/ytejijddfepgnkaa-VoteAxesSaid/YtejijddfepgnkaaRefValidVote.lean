/-
  The reference's Valid: between 1 and 9 ballots, each an order of the same 1 to 5 candidates.
-/
import Derived.Test.YtejijddfepgnkaaRankVote
import Derived.Test.YtejijddfepgnkaaValidVote
namespace Go.Proofs.Ytejijddfepgnkaa
open Go.RowKit
set_option linter.unusedVariables false
set_option linter.unusedSimpArgs false

theorem votesB_iff {L : List (List Int)} : votesB L = true ↔ (1 ≤ L.length ∧ L.length ≤ 9) ∧ (1 ≤ (L.getD 0 []).length ∧ (L.getD 0 []).length ≤ 5) ∧ ∀ l ∈ L, ordB l (L.getD 0 []).length = true := by
  simp only [votesB, Bool.and_eq_true, decide_eq_true_eq, List.all_eq_true, and_assoc]

set_option maxHeartbeats 800000 in
theorem refValid_any (A : Option Addr) (n c B : Nat) (L : List (List Int)) (w : World) (hn : L.length = n) (hlen : n ≤ 9223372036854775807) (hrow : ∀ l ∈ L, l.length ≤ 9223372036854775807) (hA : RowsA w B A L) :
    Calls Try.prog 24 #[.slice A n c] w fun e w' => e = .returned (.bool (votesB L)) ∧ w = w' := by
  by_cases h1 : 1 ≤ n
  · by_cases h9 : n ≤ 9
    · generalize hid : votesB L = r
      have HI := hide hid; clear hid
      have HN := hide hn; clear hn
      have HR := hide hrow; clear hrow
      obtain ⟨b0, o0, A0, m, c0, rfl, hb0, hc0, hx0, hle0, hI0⟩ := hA.at_ (k := 0) (by rw [HN.out]; omega)
      rw [Nat.add_zero] at hc0
      have hm63 : m ≤ 9223372036854775807 := by rw [← hx0.out]; apply HR.out; rw [List.getD_eq_getElem?_getD, List.getElem?_eq_getElem (by rw [HN.out]; omega)]; exact List.getElem_mem _
      have hn1 : decide ((n : Int) < 1) = false := by simp; omega
      have hn9 : decide ((9 : Int) < n) = false := by simp; omega
      have hi0 : (0 : Int) < (n : Int) := by omega
      clear hI0
      go_enter Try.func24, Try.ntmps24
      go_wp2
      clear hn1 hn9 hi0 hc0
      go_loop [20] (fun i => ∃ k : Nat, k ≤ n ∧ i = .int .i64 k ∧ Hid (∀ j : Nat, j < k → ordB (L.getD j []) m = true)) (fun i => n - (intOf i).toNat)
      case atStart => exact ⟨0, Nat.zero_le _, rfl, fun j hj => absurd hj (by omega)⟩
      case round =>
        obtain ⟨k, hk, rfl, hall⟩ := hrel
        by_cases hlt : k < n
        · have hkL : k < L.length := by rw [HN.out]; exact hlt
          obtain ⟨b, o, A', n', c', hX, hb, hc, hx, hle, hI⟩ := hA.at_ hkL
          injection hX with e1
          injection e1 with e1 e2 _
          subst e1; subst e2
          have HOR := hide (refIsOrder_any A' n' c' B m (L.getD k []) w hx.out (by rw [← hx.out]; exact HR.out _ (getD_mem hkL)) hm63 hI)
          clear hI
          cases ho : ordB (L.getD k []) m
          · rw [ho] at HOR
            have HO := hide ho
            clear ho
            have hkL' := hide hkL
            clear hkL
            go_wp2_with (go_at_call 31; refine (HOR.out).mono ?_; rintro e w' ⟨rfl, rfl⟩)
            go_ret
            refine ⟨?_, rfl⟩
            have : votesB L = false := by
              cases h : votesB L with
              | false => rfl
              | true =>
                have h2 := (votesB_iff.1 h).2.2 _ (getD_mem (d := []) hkL'.out)
                rw [hx0.out, HO.out] at h2; cases h2
            rw [← HI.out, this]; rfl
          · rw [ho] at HOR
            have HO := hide ho
            clear ho hkL
            go_wp2_with (go_at_call 31; refine (HOR.out).mono ?_; rintro e w' ⟨rfl, rfl⟩)
            go_round
            case rel =>
              refine ⟨k + 1, by omega, by go_num, fun j hj => ?_⟩
              by_cases e : j = k
              · subst e; exact HO.out
              · exact hall.out j (by omega)
            case measure => simp [intOf]; omega
        · obtain rfl : n = k := by omega
          have e1 : Hid (r = decide (1 ≤ m ∧ m ≤ 5)) := by
            show r = _
            rw [← HI.out, votesB, HN.out, hx0.out, decide_eq_true (p := 1 ≤ n ∧ n ≤ 9) ⟨h1, h9⟩]
            have : (L.all fun l => ordB l m) = true := by
              rw [List.all_eq_true]
              intro l hl
              obtain ⟨j, hj, rfl⟩ := List.getElem_of_mem hl
              have := hall.out j (by rw [← HN.out]; exact hj)
              rwa [List.getD_eq_getElem?_getD, List.getElem?_eq_getElem hj] at this
            rw [this, Bool.and_true, Bool.true_and]
          by_cases hm1 : 1 ≤ m
          · by_cases hm5 : m ≤ 5
            · have hd : decide ((m : Int) ≤ 5) = true := by simp; omega
              go_wp2
              go_ret
              refine ⟨?_, rfl⟩
              rw [e1.out, decide_eq_true (p := 1 ≤ m ∧ m ≤ 5) ⟨hm1, hm5⟩]; rfl
            · have hd : decide ((m : Int) ≤ 5) = false := by simp; omega
              go_wp2
              go_ret
              refine ⟨?_, rfl⟩
              rw [e1.out, decide_eq_false (p := 1 ≤ m ∧ m ≤ 5) (by omega)]; rfl
          · go_wp2
            go_ret
            refine ⟨?_, rfl⟩
            rw [e1.out, decide_eq_false (p := 1 ≤ m ∧ m ≤ 5) (by omega)]; rfl
    · have e : votesB L = false := by rw [votesB, hn, decide_eq_false (p := 1 ≤ n ∧ n ≤ 9) (by omega)]; simp
      have HE := hide e; clear e hn hrow hA
      rw [HE.out]
      go_enter Try.func24, Try.ntmps24
      go_wp2
      go_ret
      exact ⟨rfl, rfl⟩
  · have e : votesB L = false := by rw [votesB, hn, decide_eq_false (p := 1 ≤ n ∧ n ≤ 9) (by omega)]; simp
    have HE := hide e; clear e hn hrow hA
    rw [HE.out]
    go_enter Try.func24, Try.ntmps24
    go_wp2
    go_ret
    exact ⟨rfl, rfl⟩
end Go.Proofs.Ytejijddfepgnkaa
