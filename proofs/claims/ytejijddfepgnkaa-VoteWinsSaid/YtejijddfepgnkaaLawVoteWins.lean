/-
  The walk of VoteWins.
-/
import Derived.Test.YtejijddfepgnkaaRefLieV
import Derived.Test.YtejijddfepgnkaaLieNo
import Derived.Test.YtejijddfepgnkaaVoteBase
namespace Go.Proofs.Ytejijddfepgnkaa
open Go.RowKit
set_option linter.unusedVariables false
set_option linter.unusedSimpArgs false

set_option maxRecDepth 100000 in
set_option maxHeartbeats 3200000 in
theorem voteWins_any (A : Option Addr) (n c : Nat) (L : List (List Int)) (x : Int) (w : World) (hn : L.length = n) (hlen : n ≤ 9223372036854775807) (hrow : ∀ l ∈ L, l.length ≤ 9223372036854775807) (hA : RowsA w w.heap.size A L) (hx : -9223372036854775808 ≤ x ∧ x ≤ 9223372036854775807) :
    Calls Try.prog 6 #[.slice A n c, .int .i64 x] w fun e w' => e = .returned (.bool true) ∧ Below w.heap.size w w' := by
  obtain ⟨q, hq⟩ : ∃ q, (fewV L).length = q := ⟨_, rfl⟩
  have HFE := hide (vew_in (c := c) hn hlen hrow hq hA)
  have HVA := hide (refvalid_in (c := c) hn hlen hrow hA)
  by_cases hbad : votesB L = false ∨ x < 0 ∨ 3 < x
  · have HLN : Hid (∀ A' c' w1, RowsA w1 w1.heap.size A' (fewV L) → Calls Try.prog 20 #[.slice A' q c', .int .i64 x] w1 fun e w' => e = .returned (.tuple #[.int .i64 0, .slice none 0 0, .int .i64 2]) ∧ Below w1.heap.size w1 w') := fun A' c' w1 h => Lie_no A' q c' x (fewV L) w1 hq (by rw [← hq]; exact vew_len L) (vew_rows L) h (by rw [vew_valid]; exact hbad)
    have HWN : Hid (∀ A' c' w1, RowsA w1 w1.heap.size A' (fewV L) → Calls Try.prog 22 #[.slice A' q c', .int .i64 x] w1 fun e w' => e = .returned (.tuple #[.int .i64 0, .int .i64 2]) ∧ Below w1.heap.size w1 w') := fun A' c' w1 h => WinN_no A' q c' x (fewV L) w1 hq (by rw [← hq]; exact vew_len L) (vew_rows L) h (by rw [vew_valid]; exact hbad)
    cases hv : votesB L with
    | false =>
      rw [hv] at HVA
      clear hbad hrow hn hA hq hv
      go_enter Try.func6, Try.ntmps6
      have hb := Below.refl w.heap.size w
      go_wp2_with fail
      refine (HFE.out _ hb).mono ?_
      rintro e w1 ⟨A1, c1, rfl, hq1, hR1, hbn⟩
      replace hb := hb.trans (hbn.mono hb.size)
      clear hbn
      go_wp2_with fail
      refine (HWN.out _ _ _ hR1).mono ?_
      rintro e w2 ⟨rfl, hbn⟩
      replace hR1 := hR1.next hbn
      replace hb := hb.trans (hbn.mono hb.size)
      clear hbn
      clear hR1
      go_wp2_with fail
      refine (HFE.out _ hb).mono ?_
      rintro e w3 ⟨A1, c1, rfl, hq1, hR1, hbn⟩
      replace hb := hb.trans (hbn.mono hb.size)
      clear hbn
      go_wp2_with fail
      refine (HLN.out _ _ _ hR1).mono ?_
      rintro e w4 ⟨rfl, hbn⟩
      replace hR1 := hR1.next hbn
      replace hb := hb.trans (hbn.mono hb.size)
      clear hbn
      clear hR1
      go_wp2_with fail
      refine (HVA.out _ hb).mono ?_
      rintro e w5 ⟨rfl, rfl⟩
      go_wp2_with fail
      refine (awake_any _).mono ?_
      rintro e w6 ⟨rfl, hbn⟩
      replace hb := hb.trans (hbn.mono hb.size)
      clear hbn
      go_wp2
      go_ret
      exact ⟨rfl, hb⟩
    | true =>
      rw [hv] at HVA hbad
      by_cases h0 : x < 0
      · clear hbad hrow hn hA hq hv
        go_enter Try.func6, Try.ntmps6
        have hb := Below.refl w.heap.size w
        go_wp2_with fail
        refine (HFE.out _ hb).mono ?_
        rintro e w1 ⟨A1, c1, rfl, hq1, hR1, hbn⟩
        replace hb := hb.trans (hbn.mono hb.size)
        clear hbn
        go_wp2_with fail
        refine (HWN.out _ _ _ hR1).mono ?_
        rintro e w2 ⟨rfl, hbn⟩
        replace hR1 := hR1.next hbn
        replace hb := hb.trans (hbn.mono hb.size)
        clear hbn
        clear hR1
        go_wp2_with fail
        refine (HFE.out _ hb).mono ?_
        rintro e w3 ⟨A1, c1, rfl, hq1, hR1, hbn⟩
        replace hb := hb.trans (hbn.mono hb.size)
        clear hbn
        go_wp2_with fail
        refine (HLN.out _ _ _ hR1).mono ?_
        rintro e w4 ⟨rfl, hbn⟩
        replace hR1 := hR1.next hbn
        replace hb := hb.trans (hbn.mono hb.size)
        clear hbn
        clear hR1
        go_wp2_with fail
        refine (HVA.out _ hb).mono ?_
        rintro e w5 ⟨rfl, rfl⟩
        go_wp2_with fail
        refine (awake_any _).mono ?_
        rintro e w6 ⟨rfl, hbn⟩
        replace hb := hb.trans (hbn.mono hb.size)
        clear hbn
        go_wp2
        go_ret
        exact ⟨rfl, hb⟩
      · have h3 : 3 < x := by simp at hbad; omega
        clear hbad hrow hn hA hq hv
        go_enter Try.func6, Try.ntmps6
        have hb := Below.refl w.heap.size w
        go_wp2_with fail
        refine (HFE.out _ hb).mono ?_
        rintro e w1 ⟨A1, c1, rfl, hq1, hR1, hbn⟩
        replace hb := hb.trans (hbn.mono hb.size)
        clear hbn
        go_wp2_with fail
        refine (HWN.out _ _ _ hR1).mono ?_
        rintro e w2 ⟨rfl, hbn⟩
        replace hR1 := hR1.next hbn
        replace hb := hb.trans (hbn.mono hb.size)
        clear hbn
        clear hR1
        go_wp2_with fail
        refine (HFE.out _ hb).mono ?_
        rintro e w3 ⟨A1, c1, rfl, hq1, hR1, hbn⟩
        replace hb := hb.trans (hbn.mono hb.size)
        clear hbn
        go_wp2_with fail
        refine (HLN.out _ _ _ hR1).mono ?_
        rintro e w4 ⟨rfl, hbn⟩
        replace hR1 := hR1.next hbn
        replace hb := hb.trans (hbn.mono hb.size)
        clear hbn
        clear hR1
        go_wp2_with fail
        refine (HVA.out _ hb).mono ?_
        rintro e w5 ⟨rfl, rfl⟩
        go_wp2_with fail
        refine (awake_any _).mono ?_
        rintro e w6 ⟨rfl, hbn⟩
        replace hb := hb.trans (hbn.mono hb.size)
        clear hbn
        go_wp2
        go_ret
        exact ⟨rfl, hb⟩
  · have hv : votesB L = true := by cases h : votesB L with | true => rfl | false => exact absurd (.inl h) hbad
    have hx0 : 0 ≤ x ∧ x ≤ 3 := by omega
    obtain ⟨r, rfl⟩ := Int.eq_ofNat_of_zero_le hx0.1
    have hr3 : r ≤ 3 := by omega
    rw [hv] at HVA
    have hqn : q = n := by rw [← hq, vew_same hv, hn]
    subst hqn
    rw [vew_same hv] at HFE
    obtain ⟨k, W, hW, -⟩ := votes_of hv hn
    have hk5 := hW.ok.nle
    have HLI : Hid (∀ A' c' w1, RowsA w1 w1.heap.size A' L → Calls Try.prog 20 #[.slice A' q c', .int .i64 (r : Nat)] w1 (LiePost W q k r w1)) := fun A' c' w1 h => Lie_yes A' q k c' r W w1 hr3 hW.ok hW.valid (by rw [hW.eq]; exact h)
    have HWI : Hid (∀ A' c' w1, RowsA w1 w1.heap.size A' L → Calls Try.prog 22 #[.slice A' q c', .int .i64 (r : Nat)] w1 fun e w' => e = .returned (.tuple #[.int .i64 (winN W q k r), .int .i64 0]) ∧ Below w1.heap.size w1 w') := fun A' c' w1 h => WinN_yes A' q k c' r W w1 hr3 hW.ok hW.valid (by rw [hW.eq]; exact h)
    have HRL : Hid (∀ w', Below w.heap.size w w' → Calls Try.prog 35 #[.slice A q c, .int .i64 (r : Nat)] w' (RLiePost W q k r w')) := fun w' hw' => refLieV_any A q k c r W w' hr3 hW.ok (by rw [hW.eq]; exact hA.next hw')
    have HRW : Hid (∀ w', Below w.heap.size w w' → Calls Try.prog 36 #[.slice A q c, .int .i64 (r : Nat)] w' fun e w'' => e = .returned (.int .i64 (winN W q k r)) ∧ Below w'.heap.size w' w'') := fun w' hw' => refWin_any A q k c r W w' hr3 hW.ok (by rw [hW.eq]; exact hA.next hw')
    have h0r : ¬ ((r : Nat) : Int) < 0 := by omega
    have h3r : ¬ (3 : Int) < ((r : Nat) : Int) := by omega
    generalize hwin : winN W q k r = wn at *
    cases hl : lieN W q k r with
    | none =>
      have HL2 : Hid (∀ A' c' w1, RowsA w1 w1.heap.size A' L → Calls Try.prog 20 #[.slice A' q c', .int .i64 (r : Nat)] w1 fun e w' => e = .returned (.tuple #[.int .i64 0, .slice none 0 0, .int .i64 4]) ∧ Below w1.heap.size w1 w') := fun A' c' w1 h => (HLI.out A' c' w1 h).mono fun e w' h9 => by
        have h1 := h9.2
        rw [hl] at h1
        exact ⟨h1, h9.1⟩
      have HR2 : Hid (∀ w', Below w.heap.size w w' → Calls Try.prog 35 #[.slice A q c, .int .i64 (r : Nat)] w' fun e w'' => e = .returned (.tuple #[.int .i64 0, .slice none 0 0, .int .i64 4]) ∧ Below w'.heap.size w' w'') := fun w' hw' => (HRL.out w' hw').mono fun e w'' h9 => by
        have h1 := h9.2
        rw [hl] at h1
        exact ⟨h1, h9.1⟩
      have HEQ : Hid (∀ w1, Calls Try.prog 30 #[.slice none 0 0, .slice none 0 0] w1 fun e w' => e = .returned (.bool true) ∧ ∃ m, w' = w1.drewN m) := fun w1 => by
        have := equal_any none none 0 0 0 0 0 0 [] [] w1 rfl rfl (by omega) IntsA.nil_ IntsA.nil_
        rwa [decide_eq_true rfl] at this
      clear hbad hrow hn hA hq hv hW hl HLI HRL hx hx0 hwin
      go_enter Try.func6, Try.ntmps6
      have hb := Below.refl w.heap.size w
      go_wp2_with fail
      refine (HFE.out _ hb).mono ?_
      rintro e w1 ⟨A1, c1, rfl, hq1, hR1, hbn⟩
      replace hb := hb.trans (hbn.mono hb.size)
      clear hbn
      go_wp2_with fail
      refine (HWI.out _ _ _ hR1).mono ?_
      rintro e w2 ⟨rfl, hbn⟩
      replace hR1 := hR1.next hbn
      replace hb := hb.trans (hbn.mono hb.size)
      clear hbn
      clear hR1
      go_wp2_with fail
      refine (HFE.out _ hb).mono ?_
      rintro e w3 ⟨A1, c1, rfl, hq1, hR1, hbn⟩
      replace hb := hb.trans (hbn.mono hb.size)
      clear hbn
      go_wp2_with fail
      refine (HL2.out _ _ _ hR1).mono ?_
      rintro e w4 ⟨rfl, hbn⟩
      replace hR1 := hR1.next hbn
      replace hb := hb.trans (hbn.mono hb.size)
      clear hbn
      clear hR1
      go_wp2_with fail
      refine (HVA.out _ hb).mono ?_
      rintro e w5 ⟨rfl, rfl⟩
      go_wp2_with fail
      refine (HR2.out _ hb).mono ?_
      rintro e w6 ⟨rfl, hbn⟩
      replace hb := hb.trans (hbn.mono hb.size)
      clear hbn
      go_wp2_with fail
      refine (HRW.out _ hb).mono ?_
      rintro e w7 ⟨rfl, hbn⟩
      replace hb := hb.trans (hbn.mono hb.size)
      clear hbn
      go_wp2_with fail
      refine (HEQ.out _).mono ?_
      rintro e w8 ⟨rfl, m8, rfl⟩
      replace hb := below_drewN hb m8
      generalize w7.drewN m8 = w8 at *
      go_wp2_with fail
      refine (awake_any _).mono ?_
      rintro e w9 ⟨rfl, hbn⟩
      replace hb := hb.trans (hbn.mono hb.size)
      clear hbn
      go_wp2
      go_ret
      exact ⟨rfl, hb⟩
    | some ix =>
      obtain ⟨i, x⟩ := ix
      have hxl : x.length = k := by
        rw [lieN, List.findSome?_eq_some_iff] at hl
        obtain ⟨l1, a, l2, h2, h3, h4⟩ := hl
        cases h5 : (ordsN k).find? (gains W q k r a) with
        | none => rw [h5] at h3; cases h3
        | some y =>
          rw [h5] at h3
          injection h3 with h3
          injection h3 with h6 h7
          subst h7
          exact (mem_ordsN.1 (List.mem_of_find?_eq_some h5)).len
      have HL2 : Hid (∀ A' c' w1, RowsA w1 w1.heap.size A' L → Calls Try.prog 20 #[.slice A' q c', .int .i64 (r : Nat)] w1 fun e w' => ∃ X cx, e = .returned (.tuple #[.int .i64 (i : Nat), .slice X k cx, .int .i64 0]) ∧ k ≤ cx ∧ IntsA w' w'.heap.size X (up x) ∧ Below w1.heap.size w1 w') := fun A' c' w1 h => (HLI.out A' c' w1 h).mono fun e w' h9 => by
        have h1 := h9.2
        rw [hl] at h1
        obtain ⟨X, cx, g1, _, _, _, g2, g3, _⟩ := h1
        exact ⟨X, cx, g1, g2, g3, h9.1⟩
      have HR2 : Hid (∀ w', Below w.heap.size w w' → Calls Try.prog 35 #[.slice A q c, .int .i64 (r : Nat)] w' fun e w'' => ∃ X cx, e = .returned (.tuple #[.int .i64 (i : Nat), .slice X k cx, .int .i64 0]) ∧ k ≤ cx ∧ IntsA w'' w''.heap.size X (up x) ∧ Below w'.heap.size w' w'') := fun w' hw' => (HRL.out w' hw').mono fun e w'' h9 => by
        have h1 := h9.2
        rw [hl] at h1
        obtain ⟨X, cx, g1, g2, g3⟩ := h1
        exact ⟨X, cx, g1, g2, g3, h9.1⟩
      have HEQ : Hid (∀ (X1 X2 : Option Addr) (c1 c2 : Nat) w1, IntsA w1 w1.heap.size X1 (up x) → IntsA w1 w1.heap.size X2 (up x) → Calls Try.prog 30 #[.slice X1 k c1, .slice X2 k c2] w1 fun e w' => e = .returned (.bool true) ∧ ∃ m, w' = w1.drewN m) := fun X1 X2 c1 c2 w1 h1 h2 => by
        have := equal_any X1 X2 k k c1 c2 w1.heap.size w1.heap.size (up x) (up x) w1 (by rw [up_length, hxl]) (by rw [up_length, hxl]) (by omega) h1 h2
        rwa [decide_eq_true rfl] at this
      clear hbad hrow hn hA hq hv hW hl HLI HRL hx hx0 hwin hxl
      go_enter Try.func6, Try.ntmps6
      have hb := Below.refl w.heap.size w
      go_wp2_with fail
      refine (HFE.out _ hb).mono ?_
      rintro e w1 ⟨A1, c1, rfl, hq1, hR1, hbn⟩
      replace hb := hb.trans (hbn.mono hb.size)
      clear hbn
      go_wp2_with fail
      refine (HWI.out _ _ _ hR1).mono ?_
      rintro e w2 ⟨rfl, hbn⟩
      replace hR1 := hR1.next hbn
      replace hb := hb.trans (hbn.mono hb.size)
      clear hbn
      clear hR1
      go_wp2_with fail
      refine (HFE.out _ hb).mono ?_
      rintro e w3 ⟨A1, c1, rfl, hq1, hR1, hbn⟩
      replace hb := hb.trans (hbn.mono hb.size)
      clear hbn
      go_wp2_with fail
      refine (HL2.out _ _ _ hR1).mono ?_
      rintro e w4 ⟨X, cx, rfl, hcx, hXI, hbn⟩
      replace hR1 := hR1.next hbn
      replace hb := hb.trans (hbn.mono hb.size)
      clear hbn
      clear hR1
      go_wp2_with fail
      refine (HVA.out _ hb).mono ?_
      rintro e w5 ⟨rfl, rfl⟩
      go_wp2_with fail
      refine (HR2.out _ hb).mono ?_
      rintro e w6 ⟨Y, cy, rfl, hcy, hYI, hbn⟩
      replace hXI := hXI.next hbn
      replace hb := hb.trans (hbn.mono hb.size)
      clear hbn
      go_wp2_with fail
      refine (HRW.out _ hb).mono ?_
      rintro e w7 ⟨rfl, hbn⟩
      replace hXI := hXI.next hbn
      replace hYI := hYI.next hbn
      replace hb := hb.trans (hbn.mono hb.size)
      clear hbn
      go_wp2_with fail
      refine (HEQ.out _ _ _ _ _ hXI hYI).mono ?_
      rintro e w8 ⟨rfl, m8, rfl⟩
      replace hXI := hXI.keep (w' := w7.drewN m8) fun _ _ => rfl
      replace hYI := hYI.keep (w' := w7.drewN m8) fun _ _ => rfl
      replace hb := below_drewN hb m8
      replace hXI := hXI.more (B' := (w7.drewN m8).heap.size) (Nat.le_refl _)
      replace hYI := hYI.more (B' := (w7.drewN m8).heap.size) (Nat.le_refl _)
      generalize w7.drewN m8 = w8 at *
      clear hXI hYI
      go_wp2_with fail
      refine (awake_any _).mono ?_
      rintro e w9 ⟨rfl, hbn⟩
      replace hb := hb.trans (hbn.mono hb.size)
      clear hbn
      go_wp2
      go_ret
      exact ⟨rfl, hb⟩
end Go.Proofs.Ytejijddfepgnkaa
