/-
  The walk of TopTwo.
-/
import Derived.Test.YtgognkofnegobaaTwoPlain
import Derived.Test.YtgognkofnegobaaTopBase
namespace Go.Proofs.Ytgognkofnegobaa
open Go.RowKit
set_option linter.unusedVariables false
set_option linter.unusedSimpArgs false

set_option maxRecDepth 100000 in
set_option maxHeartbeats 3200000 in
theorem topTwo_any (A : Option Addr) (n c : Nat) (L : List (List Int)) (w : World) (hn : L.length = n) (hlen : n ≤ 9223372036854775807) (hrow : ∀ l ∈ L, l.length ≤ 9223372036854775807) (hA : RowsA w w.heap.size A L) :
    Calls Try.prog 3 #[.slice A n c] w fun e w' => e = .returned (.bool true) ∧ Below w.heap.size w w' := by
  have HVA : Hid (∀ w', Below w.heap.size w w' → Calls Try.prog 8 #[.slice A n c] w' fun e w'' => e = .returned (.bool (votesB L)) ∧ w' = w'') := fun w' hw' => refValid_any A n c w.heap.size L w' hn hlen hrow (hA.below hw')
  have enter := 0
  clear enter
  cases hv : votesB L with
  | false =>
    rw [hv] at HVA
    clear hrow hn hA hv hlen
    go_enter Try.func3, Try.ntmps3
    have hb := Below.refl w.heap.size w
    go_wp2_with fail
    refine (HVA.out _ hb).mono ?_
    rintro e w1 ⟨rfl, rfl⟩
    go_wp2_with fail
    refine (counts_any _).mono ?_
    rintro e w2 ⟨rfl, hbn⟩
    replace hb := hb.trans (hbn.mono hb.size)
    clear hbn
    go_wp2
    go_ret
    exact ⟨rfl, hb⟩
  | true =>
    rw [hv] at HVA
    obtain ⟨k, W, hW, hk⟩ := votes_of hv hn
    obtain ⟨b0, o0, A0, m, c0, rfl, hb0, hc0, hx0, hle0, hI0⟩ := hA.at_ (k := 0) (by have := hW.ok.pos; omega)
    rw [Nat.add_zero] at hc0
    obtain rfl : m = k := by rw [← hk, hx0.out]
    have hi0 : (0 : Int) < (n : Int) := by have := hW.ok.pos; omega
    have HBA : Hid (∀ w', Below w.heap.size w w' → Calls Try.prog 11 #[.slice (some ⟨b0, o0, none⟩) n c] w' fun e w'' => ∃ A' c', e = .returned (.slice A' n c') ∧ n ≤ c' ∧ RowsA w'' w''.heap.size A' L ∧ Below w'.heap.size w' w'') := fun w' hw' => bal_any (some ⟨b0, o0, none⟩) n c w.heap.size L w' hn hlen hrow hv (hA.below hw')
    by_cases hm2 : m = 2
    · subst hm2
      cases hpar : ((n : Int) % 2 == 0) with
      | true =>
        clear hrow hn hA hv hlen hW hI0 hx0 hle0 HBA hk
        go_enter Try.func3, Try.ntmps3
        have hb := Below.refl w.heap.size w
        go_wp2_with fail
        refine (HVA.out _ hb).mono ?_
        rintro e w1 ⟨rfl, rfl⟩
        go_wp2_with fail
        refine (counts_any _).mono ?_
        rintro e w2 ⟨rfl, hbn⟩
        replace hb := hb.trans (hbn.mono hb.size)
        clear hbn
        go_wp2
        go_ret
        exact ⟨rfl, hb⟩
      | false =>
        have hodd : n % 2 = 1 := by
          have h1 : (n : Int) % 2 = ((n % 2 : Nat) : Int) := by omega
          rw [h1] at hpar
          rcases (by omega : n % 2 = 0 ∨ n % 2 = 1) with h | h
          · rw [h] at hpar; cases hpar
          · exact h
        have HWI : Hid (∀ r, r ≤ 3 → ∀ A' c' w1, RowsA w1 w1.heap.size A' L → Calls Try.prog 10 #[.slice A' n c', .int .i64 (r : Nat)] w1 fun e w' => e = .returned (.tuple #[.int .i64 (two W : Nat), .int .i64 0]) ∧ Below w1.heap.size w1 w') := fun r hr A' c' w1 h => by
          have h9 := WinN_yes A' n 2 c' r W w1 hr hW.ok hW.valid (by rw [hW.eq]; exact h)
          rw [win_two hW.ok hodd hr] at h9
          exact h9
        have HLI : Hid (∀ r, r ≤ 3 → ∀ A' c' w1, RowsA w1 w1.heap.size A' L → Calls Try.prog 12 #[.slice A' n c', .int .i64 (r : Nat)] w1 fun e w' => e = .returned (.tuple #[.int .i64 0, .slice none 0 0, .int .i64 4]) ∧ Below w1.heap.size w1 w') := fun r hr A' c' w1 h => (Lie_yes A' n 2 c' r W w1 hr hW.ok hW.valid (by rw [hW.eq]; exact h)).mono fun e w' h9 => by
          have h1 := h9.2
          rw [lie_two hW.ok hodd hr] at h1
          exact ⟨h1, h9.1⟩
        generalize two W = t at *
        clear hrow hn hA hv hlen hW hI0 hx0 hle0 hk hodd
        go_enter Try.func3, Try.ntmps3
        have hb := Below.refl w.heap.size w
        go_wp2_with fail
        refine (HVA.out _ hb).mono ?_
        rintro e w1 ⟨rfl, rfl⟩
        go_wp2_with fail
        refine (HBA.out _ hb).mono ?_
        rintro e w2 ⟨A1, c1, rfl, hq1, hR1, hbn⟩
        replace hb := hb.trans (hbn.mono hb.size)
        clear hbn
        go_wp2_with fail
        refine (HWI.out 0 (by omega) _ _ _ hR1).mono ?_
        rintro e w3 ⟨rfl, hbn⟩
        replace hR1 := hR1.next hbn
        replace hb := hb.trans (hbn.mono hb.size)
        clear hbn
        clear hR1
        go_wp2
        go_loopw [36] (fun i wr => ∃ r : Nat, r ≤ 4 ∧ i = .int .i64 (r : Nat) ∧ Below w.heap.size w wr) (fun i _ => 4 - (intOf i).toNat)
        case atStart => exact ⟨0, by omega, rfl, hb⟩
        case round =>
          obtain ⟨r, hr, rfl, hbr⟩ := hrel
          clear hb
          have hb := hbr
          clear hbr
          by_cases hlt : r < 4
          · have hr3 : r ≤ 3 := by omega
            go_wp2_with fail
            refine (HBA.out _ hb).mono ?_
            rintro e w21 ⟨A2, c2, rfl, hq2, hR2, hbn⟩
            replace hb := hb.trans (hbn.mono hb.size)
            clear hbn
            go_wp2_with fail
            refine (HWI.out _ hr3 _ _ _ hR2).mono ?_
            rintro e w22 ⟨rfl, hbn⟩
            replace hR2 := hR2.next hbn
            replace hb := hb.trans (hbn.mono hb.size)
            clear hbn
            clear hR2
            go_wp2_with fail
            refine (HBA.out _ hb).mono ?_
            rintro e w23 ⟨A2, c2, rfl, hq2, hR2, hbn⟩
            replace hb := hb.trans (hbn.mono hb.size)
            clear hbn
            go_wp2_with fail
            refine (HLI.out _ hr3 _ _ _ hR2).mono ?_
            rintro e w24 ⟨rfl, hbn⟩
            replace hR2 := hR2.next hbn
            replace hb := hb.trans (hbn.mono hb.size)
            clear hbn
            clear hR2
            go_wp2
            go_roundw
            case rel => exact ⟨r + 1, by omega, by go_num, hb⟩
            case measure => simp [intOf]; omega
          · obtain rfl : r = 4 := by omega
            go_wp2_with fail
            refine (counts_any _).mono ?_
            rintro e w41 ⟨rfl, hbn⟩
            replace hb := hb.trans (hbn.mono hb.size)
            clear hbn
            go_wp2
            go_ret
            exact ⟨rfl, hb⟩
    · have hm3 : ((m : Int) == 2) = false := by simp; omega
      clear hrow hn hA hv hlen hW hI0 hx0 hle0 HBA hk
      go_enter Try.func3, Try.ntmps3
      have hb := Below.refl w.heap.size w
      go_wp2_with fail
      refine (HVA.out _ hb).mono ?_
      rintro e w1 ⟨rfl, rfl⟩
      go_wp2_with fail
      refine (counts_any _).mono ?_
      rintro e w2 ⟨rfl, hbn⟩
      replace hb := hb.trans (hbn.mono hb.size)
      clear hbn
      go_wp2
      go_ret
      exact ⟨rfl, hb⟩
end Go.Proofs.Ytgognkofnegobaa
