/-
  The walk of VoteWidths.
-/
import Derived.Test.YtejijddfepgnkaaPath
import Derived.Test.YtejijddfepgnkaaPathNo
import Derived.Test.YtejijddfepgnkaaPathRef
import Derived.Test.YtejijddfepgnkaaRefWidths
import Derived.Test.YtejijddfepgnkaaVoteBase
import Derived.Test.YtejijddfepgnkaaWidthsApi
import Derived.Test.YtejijddfepgnkaaSameVote
namespace Go.Proofs.Ytejijddfepgnkaa
open Go.RowKit
set_option linter.unusedVariables false
set_option linter.unusedSimpArgs false

set_option maxRecDepth 100000 in
set_option maxHeartbeats 3200000 in
theorem voteWidths_any (A : Option Addr) (n c : Nat) (L : List (List Int)) (x y : Int) (w : World) (hn : L.length = n) (hlen : n ≤ 9223372036854775807) (hrow : ∀ l ∈ L, l.length ≤ 9223372036854775807) (hA : RowsA w w.heap.size A L) (hx : -9223372036854775808 ≤ x ∧ x ≤ 9223372036854775807) (hy : -9223372036854775808 ≤ y ∧ y ≤ 9223372036854775807) :
    Calls Try.prog 13 #[.slice A n c, .int .i64 x, .int .i64 y] w fun e w' => e = .returned (.bool true) ∧ Below w.heap.size w w' := by
  obtain ⟨q, hq⟩ : ∃ q, (fewV L).length = q := ⟨_, rfl⟩
  have HFE := hide (vew_in (c := c) hn hlen hrow hq hA)
  have HVA := hide (refvalid_in (c := c) hn hlen hrow hA)
  cases hv : votesB L
  · have HWN : Hid (∀ A' c' w1, RowsA w1 w1.heap.size A' (fewV L) → Calls Try.prog 38 #[.slice A' q c'] w1 fun e w' => e = .returned (.tuple #[.slice none 0 0, .int .i64 2]) ∧ Below w1.heap.size w1 w') := fun A' c' w1 h => Widths_no A' q c' (fewV L) w1 hq (by rw [← hq]; exact vew_len L) (vew_rows L) h (by rw [vew_valid]; exact hv)
    have HPN : Hid (∀ A' c' w1, RowsA w1 w1.heap.size A' (fewV L) → Calls Try.prog 40 #[.slice A' q c', .int .i64 x, .int .i64 y] w1 fun e w' => e = .returned (.tuple #[.slice none 0 0, .int .i64 2]) ∧ Below w1.heap.size w1 w') := fun A' c' w1 h => Path_no A' q c' x y (fewV L) w1 hq (by rw [← hq]; exact vew_len L) (vew_rows L) h (by rw [vew_valid]; exact hv)
    rw [hv] at HVA
    clear hv hrow hn hA hq
    go_enter Try.func13, Try.ntmps13
    have hb := Below.refl w.heap.size w
    go_wp2_with fail
    refine (HFE.out _ hb).mono ?_
    rintro e w1 ⟨A1, c1, rfl, hq1, hR1, hbn⟩
    replace hb := hb.trans (hbn.mono hb.size)
    clear hbn
    go_wp2_with fail
    refine (HWN.out _ _ _ hR1).mono ?_
    rintro e w2 ⟨rfl, hbn⟩
    replace hR1 := hR1.next hbn
    replace hb := hb.trans (hbn.mono hb.size)
    clear hbn
    clear hR1
    go_wp2_with fail
    refine (HFE.out _ hb).mono ?_
    rintro e w3 ⟨A1, c1, rfl, hq1, hR1, hbn⟩
    replace hb := hb.trans (hbn.mono hb.size)
    clear hbn
    go_wp2_with fail
    refine (HPN.out _ _ _ hR1).mono ?_
    rintro e w4 ⟨rfl, hbn⟩
    replace hR1 := hR1.next hbn
    replace hb := hb.trans (hbn.mono hb.size)
    clear hbn
    clear hR1
    go_wp2_with fail
    refine (HVA.out _ hb).mono ?_
    rintro e w5 ⟨rfl, rfl⟩
    go_wp2_with fail
    refine (awake_any _).mono ?_
    rintro e w6 ⟨rfl, hbn⟩
    replace hb := hb.trans (hbn.mono hb.size)
    clear hbn
    go_wp2
    go_ret
    exact ⟨rfl, hb⟩
  · have hqn : q = n := by rw [← hq, vew_same hv, hn]
    subst hqn
    rw [vew_same hv] at HFE
    rw [hv] at HVA
    obtain ⟨k, W, hW, -⟩ := votes_of hv hn
    have hk5 := hW.ok.nle
    have hk1 := hW.ok.npos
    have HWY : Hid (∀ A' c' w1, RowsA w1 w1.heap.size A' L → Calls Try.prog 38 #[.slice A' q c'] w1 fun e w' => ∃ X c', e = .returned (.tuple #[.slice X k c', .int .i64 0]) ∧ k ≤ c' ∧ RowsA w' w'.heap.size X (rowsZ (widM k (margM W)) k) ∧ Below w1.heap.size w1 w') := fun A' c' w1 h => Widths_yes A' q k c' W w1 hW.ok (by rw [hW.eq]; exact h) hW.valid
    have HRW : Hid (∀ w', Below w.heap.size w w' → Calls Try.prog 45 #[.slice A q c] w' fun e w'' => ∃ X c', e = .returned (.slice X k c') ∧ k ≤ c' ∧ RowsA w'' w''.heap.size X (rowsZ (widM k (margM W)) k) ∧ Below w'.heap.size w' w'') := fun w' hw' => refWidths_any A q k c W w' hW.ok (by rw [hW.eq]; exact hA.next hw')
    have HSM : Hid (∀ A1 c1 A2 c2 w1, RowsA w1 w1.heap.size A1 (rowsZ (widM k (margM W)) k) → RowsA w1 w1.heap.size A2 (rowsZ (widM k (margM W)) k) → Calls Try.prog 42 #[.slice A1 k c1, .slice A2 k c2] w1 fun e w' => e = .returned (.bool true) ∧ ∃ m, w' = w1.drewN m) := fun A1 c1 A2 c2 w1 h1 h2 => by
      have h9 := same_any A1 A2 k k c1 c2 w1.heap.size w1.heap.size (rowsZ (widM k (margM W)) k) (rowsZ (widM k (margM W)) k) w1 (by simp [rowsZ]) (by simp [rowsZ]) (by omega) (fun l hl => by
        simp only [rowsZ, List.mem_map] at hl
        obtain ⟨x, _, rfl⟩ := hl
        rw [rowZ_len]; omega) h1 h2
      rw [decide_eq_true rfl] at h9
      exact h9
    have hA2 : RowsA w w.heap.size A (upp W) := by rw [hW.eq]; exact hA
    obtain ⟨b0, o0, A0, n0, c0, hAe, hb0, hc0, hx0, hle0, hI0⟩ := hA2.at_ (k := 0) (by rw [upp_length, hW.ok.len]; exact hW.ok.pos)
    rw [upp_getD] at hx0
    obtain rfl : k = n0 := by have := hx0.out; rw [up_length, (hW.ok.rows 0 hW.ok.pos).len] at this; exact this
    rw [Nat.add_zero] at hc0
    have hqz : q ≠ 0 := by have := hW.ok.pos; omega
    have hqz2 : ¬ q = 0 := hqz
    by_cases hgood : 0 ≤ x ∧ x < (k : Int) ∧ 0 ≤ y ∧ y < (k : Int) ∧ x ≠ y
    · obtain ⟨g1, g2, g3, g4, g5⟩ := hgood
      obtain ⟨a, rfl⟩ : ∃ a : Nat, x = a := ⟨x.toNat, by omega⟩
      obtain ⟨b, rfl⟩ : ∃ b : Nat, y = b := ⟨y.toNat, by omega⟩
      have hak : a < k := by omega
      have hbk : b < k := by omega
      have hab : a ≠ b := by omega
      obtain ⟨Lp, pth, hL2, hLk, hL, hno, hok⟩ := path_ex (M := margM W) hak hbk hab
      have hPY0 := fun A' c' w1 (h : RowsA w1 w1.heap.size A' L) => Path_yes A' q k c' a b Lp pth W w1 hW.ok (by rw [hW.eq]; exact h) hW.valid hak hbk hab hL2 (by omega) hL hno
      rw [hok.len] at hPY0
      have HPY : Hid (∀ A' c' w1, RowsA w1 w1.heap.size A' L → Calls Try.prog 40 #[.slice A' q c', .int .i64 (a : Nat), .int .i64 (b : Nat)] w1 fun e w' => ∃ X cx, e = .returned (.tuple #[.slice (some X) Lp cx, .int .i64 0]) ∧ Lp ≤ cx ∧ IntsA w' w'.heap.size (some X) (up pth) ∧ Below w1.heap.size w1 w') := hPY0
      have hfd : ∀ j, 2 ≤ j → j ≤ k → (someN k j).find? (goodP W k a b j) = pthF (margM W) k b (widM k (margM W) a b) (j - 1) [a] := fun j hj hjk => find_first hak (by omega) fun p hp => good_iff hW.ok hak hbk hab hj hjk hp
      have HRP : Hid (∀ w', Below w.heap.size w w' → Calls Try.prog 46 #[.slice A q c, .int .i64 (a : Nat), .int .i64 (b : Nat)] w' fun e w'' => ∃ X cx, e = .returned (.slice X Lp cx) ∧ Lp ≤ cx ∧ IntsA w'' w''.heap.size X (up pth) ∧ Below w'.heap.size w' w'') := fun w' hw' =>
        refPath_any A q k c a b Lp pth W w' hW.ok hak hbk (hA2.next hw') hL2 hLk (by rw [hfd Lp hL2 hLk]; exact hL) (fun j hj hjL => by rw [hfd j hj (by omega)]; exact hno j hj hjL)
      have HEQ : Hid (∀ (X1 X2 : Option Addr) (c1 c2 : Nat) w1, IntsA w1 w1.heap.size X1 (up pth) → IntsA w1 w1.heap.size X2 (up pth) → Calls Try.prog 30 #[.slice X1 Lp c1, .slice X2 Lp c2] w1 fun e w' => e = .returned (.bool true) ∧ ∃ m, w' = w1.drewN m) := fun X1 X2 c1 c2 w1 h1 h2 => by
        have := equal_any X1 X2 Lp Lp c1 c2 w1.heap.size w1.heap.size (up pth) (up pth) w1 (by rw [up_length, hok.len]) (by rw [up_length, hok.len]) (by omega) h1 h2
        rwa [decide_eq_true rfl] at this
      have k0 : ¬ (a : Int) = (b : Int) := by omega
      have k00 : ((a : Int) == (b : Int)) = false := by simp [k0]
      have k01 : (a == b) = false := by simp [hab]
      have k3 : decide ((k : Int) ≤ (a : Int)) = false := decide_eq_false (by omega)
      have k4 : decide ((k : Int) ≤ (b : Int)) = false := decide_eq_false (by omega)
      have k5 : decide (k ≤ a) = false := decide_eq_false (by omega)
      have k6 : decide (k ≤ b) = false := decide_eq_false (by omega)
      generalize rowsZ (widM k (margM W)) k = T at *
      subst hAe
      clear hv hrow hn hA hq hW hPY0 hL hno hok hfd hA2 hx0 hle0 hI0
      go_enter Try.func13, Try.ntmps13
      have hb := Below.refl w.heap.size w
      go_wp2_with fail
      refine (HFE.out _ hb).mono ?_
      rintro e w1 ⟨A1, c1, rfl, hq1, hR1, hbn⟩
      replace hb := hb.trans (hbn.mono hb.size)
      clear hbn
      go_wp2_with fail
      refine (HWY.out _ _ _ hR1).mono ?_
      rintro e w2 ⟨X2, d2, rfl, hd2, hRT, hbn⟩
      replace hR1 := hR1.next hbn
      replace hb := hb.trans (hbn.mono hb.size)
      clear hbn
      clear hR1
      go_wp2_with fail
      refine (HFE.out _ hb).mono ?_
      rintro e w3 ⟨A3, c3, rfl, hq3, hR1, hbn⟩
      replace hRT := hRT.next hbn
      replace hb := hb.trans (hbn.mono hb.size)
      clear hbn
      go_wp2_with fail
      refine (HPY.out _ _ _ hR1).mono ?_
      rintro e w4 ⟨X6, d6, rfl, hd6, hIP, hbn⟩
      replace hRT := hRT.next hbn
      replace hR1 := hR1.next hbn
      replace hb := hb.trans (hbn.mono hb.size)
      clear hbn
      clear hR1
      go_wp2_with fail
      refine (HVA.out _ hb).mono ?_
      rintro e w5 ⟨rfl, rfl⟩
      go_wp2_with fail
      refine (HRW.out _ hb).mono ?_
      rintro e w6 ⟨X7, d7, rfl, hd7, hRU, hbn⟩
      replace hRT := hRT.next hbn
      replace hIP := hIP.next hbn
      replace hb := hb.trans (hbn.mono hb.size)
      clear hbn
      go_wp2_with fail
      refine (HSM.out _ _ _ _ _ hRT hRU).mono ?_
      rintro e w7 ⟨rfl, m7, rfl⟩
      replace hRT := hRT.keep (w' := w6.drewN m7) fun _ _ => rfl
      replace hIP := hIP.keep (w' := w6.drewN m7) fun _ _ => rfl
      replace hRU := hRU.keep (w' := w6.drewN m7) fun _ _ => rfl
      replace hb := below_drewN hb m7
      replace hRT := hRT.more (B' := (w6.drewN m7).heap.size) (Nat.le_refl _)
      replace hIP := hIP.more (B' := (w6.drewN m7).heap.size) (Nat.le_refl _)
      replace hRU := hRU.more (B' := (w6.drewN m7).heap.size) (Nat.le_refl _)
      generalize w6.drewN m7 = w7 at *
      clear hRT hRU
      go_wp2_with fail
      refine (awake_any _).mono ?_
      rintro e w8 ⟨rfl, hbn⟩
      replace hIP := hIP.next hbn
      replace hb := hb.trans (hbn.mono hb.size)
      clear hbn
      have hc9 := (hb.cell (p := ⟨b0, o0, none⟩) hb0).trans hc0
      go_wp2_with fail
      refine (HRP.out _ hb).mono ?_
      rintro e w9 ⟨X8, d8, rfl, hd8, hIQ, hbn⟩
      replace hIP := hIP.next hbn
      replace hb := hb.trans (hbn.mono hb.size)
      clear hbn
      clear hc9
      go_wp2_with fail
      refine (HEQ.out _ _ _ _ _ hIP hIQ).mono ?_
      rintro e w10 ⟨rfl, m10, rfl⟩
      replace hIP := hIP.keep (w' := w9.drewN m10) fun _ _ => rfl
      replace hIQ := hIQ.keep (w' := w9.drewN m10) fun _ _ => rfl
      replace hb := below_drewN hb m10
      replace hIP := hIP.more (B' := (w9.drewN m10).heap.size) (Nat.le_refl _)
      replace hIQ := hIQ.more (B' := (w9.drewN m10).heap.size) (Nat.le_refl _)
      generalize w9.drewN m10 = w10 at *
      go_wp2
      go_ret
      exact ⟨rfl, hb⟩
    · have HPB : Hid (∀ A' c' w1, RowsA w1 w1.heap.size A' L → Calls Try.prog 40 #[.slice A' q c', .int .i64 x, .int .i64 y] w1 fun e w' => e = .returned (.tuple #[.slice none 0 0, .int .i64 2]) ∧ Below w1.heap.size w1 w') := fun A' c' w1 h => Path_bad A' q k c' x y W w1 hW.ok (by rw [hW.eq]; exact h) hW.valid hgood
      generalize rowsZ (widM k (margM W)) k = T at *
      subst hAe
      clear hv hrow hn hA hq hW hA2 hx0 hle0 hI0
      by_cases e1 : x = y
      · obtain rfl : x = y := e1
        clear hgood
        go_enter Try.func13, Try.ntmps13
        have hb := Below.refl w.heap.size w
        go_wp2_with fail
        refine (HFE.out _ hb).mono ?_
        rintro e w1 ⟨A1, c1, rfl, hq1, hR1, hbn⟩
        replace hb := hb.trans (hbn.mono hb.size)
        clear hbn
        go_wp2_with fail
        refine (HWY.out _ _ _ hR1).mono ?_
        rintro e w2 ⟨X2, d2, rfl, hd2, hRT, hbn⟩
        replace hR1 := hR1.next hbn
        replace hb := hb.trans (hbn.mono hb.size)
        clear hbn
        clear hR1
        go_wp2_with fail
        refine (HFE.out _ hb).mono ?_
        rintro e w3 ⟨A3, c3, rfl, hq3, hR1, hbn⟩
        replace hRT := hRT.next hbn
        replace hb := hb.trans (hbn.mono hb.size)
        clear hbn
        go_wp2_with fail
        refine (HPB.out _ _ _ hR1).mono ?_
        rintro e w4 ⟨rfl, hbn⟩
        replace hRT := hRT.next hbn
        replace hR1 := hR1.next hbn
        replace hb := hb.trans (hbn.mono hb.size)
        clear hbn
        clear hR1
        go_wp2_with fail
        refine (HVA.out _ hb).mono ?_
        rintro e w5 ⟨rfl, rfl⟩
        go_wp2_with fail
        refine (HRW.out _ hb).mono ?_
        rintro e w6 ⟨X7, d7, rfl, hd7, hRU, hbn⟩
        replace hRT := hRT.next hbn
        replace hb := hb.trans (hbn.mono hb.size)
        clear hbn
        go_wp2_with fail
        refine (HSM.out _ _ _ _ _ hRT hRU).mono ?_
        rintro e w7 ⟨rfl, m7, rfl⟩
        replace hRT := hRT.keep (w' := w6.drewN m7) fun _ _ => rfl
        replace hRU := hRU.keep (w' := w6.drewN m7) fun _ _ => rfl
        replace hb := below_drewN hb m7
        replace hRT := hRT.more (B' := (w6.drewN m7).heap.size) (Nat.le_refl _)
        replace hRU := hRU.more (B' := (w6.drewN m7).heap.size) (Nat.le_refl _)
        generalize w6.drewN m7 = w7 at *
        clear hRT hRU
        go_wp2_with fail
        refine (awake_any _).mono ?_
        rintro e w8 ⟨rfl, hbn⟩
        replace hb := hb.trans (hbn.mono hb.size)
        clear hbn
        have hc9 := (hb.cell (p := ⟨b0, o0, none⟩) hb0).trans hc0
        go_wp2
        go_ret
        exact ⟨rfl, hb⟩
      · have d1 : (x == y) = false := by simp [e1]
        by_cases e2 : x < 0
        · have d2 : decide (x < 0) = true := decide_eq_true e2
          clear hgood
          go_enter Try.func13, Try.ntmps13
          have hb := Below.refl w.heap.size w
          go_wp2_with fail
          refine (HFE.out _ hb).mono ?_
          rintro e w1 ⟨A1, c1, rfl, hq1, hR1, hbn⟩
          replace hb := hb.trans (hbn.mono hb.size)
          clear hbn
          go_wp2_with fail
          refine (HWY.out _ _ _ hR1).mono ?_
          rintro e w2 ⟨X2, d2, rfl, hd2, hRT, hbn⟩
          replace hR1 := hR1.next hbn
          replace hb := hb.trans (hbn.mono hb.size)
          clear hbn
          clear hR1
          go_wp2_with fail
          refine (HFE.out _ hb).mono ?_
          rintro e w3 ⟨A3, c3, rfl, hq3, hR1, hbn⟩
          replace hRT := hRT.next hbn
          replace hb := hb.trans (hbn.mono hb.size)
          clear hbn
          go_wp2_with fail
          refine (HPB.out _ _ _ hR1).mono ?_
          rintro e w4 ⟨rfl, hbn⟩
          replace hRT := hRT.next hbn
          replace hR1 := hR1.next hbn
          replace hb := hb.trans (hbn.mono hb.size)
          clear hbn
          clear hR1
          go_wp2_with fail
          refine (HVA.out _ hb).mono ?_
          rintro e w5 ⟨rfl, rfl⟩
          go_wp2_with fail
          refine (HRW.out _ hb).mono ?_
          rintro e w6 ⟨X7, d7, rfl, hd7, hRU, hbn⟩
          replace hRT := hRT.next hbn
          replace hb := hb.trans (hbn.mono hb.size)
          clear hbn
          go_wp2_with fail
          refine (HSM.out _ _ _ _ _ hRT hRU).mono ?_
          rintro e w7 ⟨rfl, m7, rfl⟩
          replace hRT := hRT.keep (w' := w6.drewN m7) fun _ _ => rfl
          replace hRU := hRU.keep (w' := w6.drewN m7) fun _ _ => rfl
          replace hb := below_drewN hb m7
          replace hRT := hRT.more (B' := (w6.drewN m7).heap.size) (Nat.le_refl _)
          replace hRU := hRU.more (B' := (w6.drewN m7).heap.size) (Nat.le_refl _)
          generalize w6.drewN m7 = w7 at *
          clear hRT hRU
          go_wp2_with fail
          refine (awake_any _).mono ?_
          rintro e w8 ⟨rfl, hbn⟩
          replace hb := hb.trans (hbn.mono hb.size)
          clear hbn
          have hc9 := (hb.cell (p := ⟨b0, o0, none⟩) hb0).trans hc0
          go_wp2
          go_ret
          exact ⟨rfl, hb⟩
        · have d2 : decide (x < 0) = false := decide_eq_false e2
          by_cases e3 : y < 0
          · have d3 : decide (y < 0) = true := decide_eq_true e3
            clear hgood
            go_enter Try.func13, Try.ntmps13
            have hb := Below.refl w.heap.size w
            go_wp2_with fail
            refine (HFE.out _ hb).mono ?_
            rintro e w1 ⟨A1, c1, rfl, hq1, hR1, hbn⟩
            replace hb := hb.trans (hbn.mono hb.size)
            clear hbn
            go_wp2_with fail
            refine (HWY.out _ _ _ hR1).mono ?_
            rintro e w2 ⟨X2, d2, rfl, hd2, hRT, hbn⟩
            replace hR1 := hR1.next hbn
            replace hb := hb.trans (hbn.mono hb.size)
            clear hbn
            clear hR1
            go_wp2_with fail
            refine (HFE.out _ hb).mono ?_
            rintro e w3 ⟨A3, c3, rfl, hq3, hR1, hbn⟩
            replace hRT := hRT.next hbn
            replace hb := hb.trans (hbn.mono hb.size)
            clear hbn
            go_wp2_with fail
            refine (HPB.out _ _ _ hR1).mono ?_
            rintro e w4 ⟨rfl, hbn⟩
            replace hRT := hRT.next hbn
            replace hR1 := hR1.next hbn
            replace hb := hb.trans (hbn.mono hb.size)
            clear hbn
            clear hR1
            go_wp2_with fail
            refine (HVA.out _ hb).mono ?_
            rintro e w5 ⟨rfl, rfl⟩
            go_wp2_with fail
            refine (HRW.out _ hb).mono ?_
            rintro e w6 ⟨X7, d7, rfl, hd7, hRU, hbn⟩
            replace hRT := hRT.next hbn
            replace hb := hb.trans (hbn.mono hb.size)
            clear hbn
            go_wp2_with fail
            refine (HSM.out _ _ _ _ _ hRT hRU).mono ?_
            rintro e w7 ⟨rfl, m7, rfl⟩
            replace hRT := hRT.keep (w' := w6.drewN m7) fun _ _ => rfl
            replace hRU := hRU.keep (w' := w6.drewN m7) fun _ _ => rfl
            replace hb := below_drewN hb m7
            replace hRT := hRT.more (B' := (w6.drewN m7).heap.size) (Nat.le_refl _)
            replace hRU := hRU.more (B' := (w6.drewN m7).heap.size) (Nat.le_refl _)
            generalize w6.drewN m7 = w7 at *
            clear hRT hRU
            go_wp2_with fail
            refine (awake_any _).mono ?_
            rintro e w8 ⟨rfl, hbn⟩
            replace hb := hb.trans (hbn.mono hb.size)
            clear hbn
            have hc9 := (hb.cell (p := ⟨b0, o0, none⟩) hb0).trans hc0
            go_wp2
            go_ret
            exact ⟨rfl, hb⟩
          · have d3 : decide (y < 0) = false := decide_eq_false e3
            by_cases e4 : (k : Int) ≤ x
            · have d4 : decide ((k : Int) ≤ x) = true := decide_eq_true e4
              clear hgood
              go_enter Try.func13, Try.ntmps13
              have hb := Below.refl w.heap.size w
              go_wp2_with fail
              refine (HFE.out _ hb).mono ?_
              rintro e w1 ⟨A1, c1, rfl, hq1, hR1, hbn⟩
              replace hb := hb.trans (hbn.mono hb.size)
              clear hbn
              go_wp2_with fail
              refine (HWY.out _ _ _ hR1).mono ?_
              rintro e w2 ⟨X2, d2, rfl, hd2, hRT, hbn⟩
              replace hR1 := hR1.next hbn
              replace hb := hb.trans (hbn.mono hb.size)
              clear hbn
              clear hR1
              go_wp2_with fail
              refine (HFE.out _ hb).mono ?_
              rintro e w3 ⟨A3, c3, rfl, hq3, hR1, hbn⟩
              replace hRT := hRT.next hbn
              replace hb := hb.trans (hbn.mono hb.size)
              clear hbn
              go_wp2_with fail
              refine (HPB.out _ _ _ hR1).mono ?_
              rintro e w4 ⟨rfl, hbn⟩
              replace hRT := hRT.next hbn
              replace hR1 := hR1.next hbn
              replace hb := hb.trans (hbn.mono hb.size)
              clear hbn
              clear hR1
              go_wp2_with fail
              refine (HVA.out _ hb).mono ?_
              rintro e w5 ⟨rfl, rfl⟩
              go_wp2_with fail
              refine (HRW.out _ hb).mono ?_
              rintro e w6 ⟨X7, d7, rfl, hd7, hRU, hbn⟩
              replace hRT := hRT.next hbn
              replace hb := hb.trans (hbn.mono hb.size)
              clear hbn
              go_wp2_with fail
              refine (HSM.out _ _ _ _ _ hRT hRU).mono ?_
              rintro e w7 ⟨rfl, m7, rfl⟩
              replace hRT := hRT.keep (w' := w6.drewN m7) fun _ _ => rfl
              replace hRU := hRU.keep (w' := w6.drewN m7) fun _ _ => rfl
              replace hb := below_drewN hb m7
              replace hRT := hRT.more (B' := (w6.drewN m7).heap.size) (Nat.le_refl _)
              replace hRU := hRU.more (B' := (w6.drewN m7).heap.size) (Nat.le_refl _)
              generalize w6.drewN m7 = w7 at *
              clear hRT hRU
              go_wp2_with fail
              refine (awake_any _).mono ?_
              rintro e w8 ⟨rfl, hbn⟩
              replace hb := hb.trans (hbn.mono hb.size)
              clear hbn
              have hc9 := (hb.cell (p := ⟨b0, o0, none⟩) hb0).trans hc0
              go_wp2
              go_ret
              exact ⟨rfl, hb⟩
            · have d4 : decide ((k : Int) ≤ x) = false := decide_eq_false e4
              have e5 : (k : Int) ≤ y := by omega
              have d5 : decide ((k : Int) ≤ y) = true := decide_eq_true e5
              clear hgood
              go_enter Try.func13, Try.ntmps13
              have hb := Below.refl w.heap.size w
              go_wp2_with fail
              refine (HFE.out _ hb).mono ?_
              rintro e w1 ⟨A1, c1, rfl, hq1, hR1, hbn⟩
              replace hb := hb.trans (hbn.mono hb.size)
              clear hbn
              go_wp2_with fail
              refine (HWY.out _ _ _ hR1).mono ?_
              rintro e w2 ⟨X2, d2, rfl, hd2, hRT, hbn⟩
              replace hR1 := hR1.next hbn
              replace hb := hb.trans (hbn.mono hb.size)
              clear hbn
              clear hR1
              go_wp2_with fail
              refine (HFE.out _ hb).mono ?_
              rintro e w3 ⟨A3, c3, rfl, hq3, hR1, hbn⟩
              replace hRT := hRT.next hbn
              replace hb := hb.trans (hbn.mono hb.size)
              clear hbn
              go_wp2_with fail
              refine (HPB.out _ _ _ hR1).mono ?_
              rintro e w4 ⟨rfl, hbn⟩
              replace hRT := hRT.next hbn
              replace hR1 := hR1.next hbn
              replace hb := hb.trans (hbn.mono hb.size)
              clear hbn
              clear hR1
              go_wp2_with fail
              refine (HVA.out _ hb).mono ?_
              rintro e w5 ⟨rfl, rfl⟩
              go_wp2_with fail
              refine (HRW.out _ hb).mono ?_
              rintro e w6 ⟨X7, d7, rfl, hd7, hRU, hbn⟩
              replace hRT := hRT.next hbn
              replace hb := hb.trans (hbn.mono hb.size)
              clear hbn
              go_wp2_with fail
              refine (HSM.out _ _ _ _ _ hRT hRU).mono ?_
              rintro e w7 ⟨rfl, m7, rfl⟩
              replace hRT := hRT.keep (w' := w6.drewN m7) fun _ _ => rfl
              replace hRU := hRU.keep (w' := w6.drewN m7) fun _ _ => rfl
              replace hb := below_drewN hb m7
              replace hRT := hRT.more (B' := (w6.drewN m7).heap.size) (Nat.le_refl _)
              replace hRU := hRU.more (B' := (w6.drewN m7).heap.size) (Nat.le_refl _)
              generalize w6.drewN m7 = w7 at *
              clear hRT hRU
              go_wp2_with fail
              refine (awake_any _).mono ?_
              rintro e w8 ⟨rfl, hbn⟩
              replace hb := hb.trans (hbn.mono hb.size)
              clear hbn
              have hc9 := (hb.cell (p := ⟨b0, o0, none⟩) hb0).trans hc0
              go_wp2
              go_ret
              exact ⟨rfl, hb⟩
end Go.Proofs.Ytejijddfepgnkaa
