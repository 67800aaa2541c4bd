/-
  The walk of VoteMargins.
-/
import Derived.Test.YtejijddfepgnkaaRefBest
import Derived.Test.YtejijddfepgnkaaRefMargins
import Derived.Test.YtejijddfepgnkaaVoteBase
import Derived.Test.YtejijddfepgnkaaMarginsApi
import Derived.Test.YtejijddfepgnkaaSameVote
namespace Go.Proofs.Ytejijddfepgnkaa
open Go.RowKit
set_option linter.unusedVariables false
set_option linter.unusedSimpArgs false

set_option maxRecDepth 100000 in
set_option maxHeartbeats 3200000 in
theorem voteMargins_any (A : Option Addr) (n c : Nat) (L : List (List Int)) (w : World) (hn : L.length = n) (hlen : n ≤ 9223372036854775807) (hrow : ∀ l ∈ L, l.length ≤ 9223372036854775807) (hA : RowsA w w.heap.size A L) :
    Calls Try.prog 12 #[.slice A n c] w fun e w' => e = .returned (.bool true) ∧ Below w.heap.size w w' := by
  obtain ⟨q, hq⟩ : ∃ q, (fewV L).length = q := ⟨_, rfl⟩
  have HFE := hide (vew_in (c := c) hn hlen hrow hq hA)
  have HVA := hide (refvalid_in (c := c) hn hlen hrow hA)
  cases hv : votesB L
  · have HMN : Hid (∀ A' c' w1, RowsA w1 w1.heap.size A' (fewV L) → Calls Try.prog 33 #[.slice A' q c'] w1 fun e w' => e = .returned (.tuple #[.slice none 0 0, .int .i64 2]) ∧ Below w1.heap.size w1 w') := fun A' c' w1 h => Margins_no A' q c' (fewV L) w1 hq (by rw [← hq]; exact vew_len L) (vew_rows L) h (by rw [vew_valid]; exact hv)
    have HBN : Hid (∀ A' c' w1, RowsA w1 w1.heap.size A' (fewV L) → Calls Try.prog 39 #[.slice A' q c'] w1 fun e w' => e = .returned (.tuple #[.int .i64 0, .int .i64 2]) ∧ Below w1.heap.size w1 w') := fun A' c' w1 h => Best_no A' q c' (fewV L) w1 hq (by rw [← hq]; exact vew_len L) (vew_rows L) h (by rw [vew_valid]; exact hv)
    rw [hv] at HVA
    clear hv hrow hn hA hq
    go_enter Try.func12, Try.ntmps12
    have hb := Below.refl w.heap.size w
    go_wp2_with fail
    refine (HFE.out _ hb).mono ?_
    rintro e w1 ⟨A1, c1, rfl, hq1, hR1, hbn⟩
    replace hb := hb.trans (hbn.mono hb.size)
    clear hbn
    go_wp2_with fail
    refine (HMN.out _ _ _ hR1).mono ?_
    rintro e w2 ⟨rfl, hbn⟩
    replace hR1 := hR1.next hbn
    replace hb := hb.trans (hbn.mono hb.size)
    clear hbn
    clear hR1
    go_wp2_with fail
    refine (HFE.out _ hb).mono ?_
    rintro e w3 ⟨A1, c1, rfl, hq1, hR1, hbn⟩
    replace hb := hb.trans (hbn.mono hb.size)
    clear hbn
    go_wp2_with fail
    refine (HBN.out _ _ _ hR1).mono ?_
    rintro e w4 ⟨rfl, hbn⟩
    replace hR1 := hR1.next hbn
    replace hb := hb.trans (hbn.mono hb.size)
    clear hbn
    clear hR1
    go_wp2_with fail
    refine (HVA.out _ hb).mono ?_
    rintro e w5 ⟨rfl, rfl⟩
    go_wp2_with fail
    refine (awake_any _).mono ?_
    rintro e w6 ⟨rfl, hbn⟩
    replace hb := hb.trans (hbn.mono hb.size)
    clear hbn
    go_wp2
    go_ret
    exact ⟨rfl, hb⟩
  · have hqn : q = n := by rw [← hq, vew_same hv, hn]
    subst hqn
    rw [vew_same hv] at HFE
    rw [hv] at HVA
    obtain ⟨k, W, hW, -⟩ := votes_of hv hn
    have HMY : Hid (∀ A' c' w1, RowsA w1 w1.heap.size A' L → Calls Try.prog 33 #[.slice A' q c'] w1 fun e w' => ∃ X c', e = .returned (.tuple #[.slice X k c', .int .i64 0]) ∧ k ≤ c' ∧ RowsA w' w'.heap.size X (rowsZ (margM W) k) ∧ Below w1.heap.size w1 w') := fun A' c' w1 h => Margins_yes A' q k c' W w1 hW.ok (by rw [hW.eq]; exact h) hW.valid
    have HBY : Hid (∀ A' c' w1, RowsA w1 w1.heap.size A' L → Calls Try.prog 39 #[.slice A' q c'] w1 fun e w' => e = .returned (.tuple #[.int .i64 (bestN (margM W) k : Nat), .int .i64 0]) ∧ Below w1.heap.size w1 w') := fun A' c' w1 h => Best_yes A' q k c' W w1 hW.ok (by rw [hW.eq]; exact h) hW.valid
    have HRM : Hid (∀ w', Below w.heap.size w w' → Calls Try.prog 43 #[.slice A q c] w' fun e w'' => ∃ X c', e = .returned (.slice X k c') ∧ k ≤ c' ∧ RowsA w'' w''.heap.size X (rowsZ (margM W) k) ∧ Below w'.heap.size w' w'') := fun w' hw' => refMargins_any A q k c W w' hW.ok (by rw [hW.eq]; exact hA.next hw')
    have HRB : Hid (∀ w', Below w.heap.size w w' → Calls Try.prog 44 #[.slice A q c] w' fun e w'' => e = .returned (.int .i64 (bestN (margM W) k : Nat)) ∧ w' = w'') := fun w' hw' => refBest_any A q k c W w' hW.ok (by rw [hW.eq]; exact hA.next hw')
    have HSM : Hid (∀ A1 c1 A2 c2 w1, RowsA w1 w1.heap.size A1 (rowsZ (margM W) k) → RowsA w1 w1.heap.size A2 (rowsZ (margM W) k) → Calls Try.prog 42 #[.slice A1 k c1, .slice A2 k c2] w1 fun e w' => e = .returned (.bool true) ∧ ∃ m, w' = w1.drewN m) := fun A1 c1 A2 c2 w1 h1 h2 => by
      have hk5 := hW.ok.nle
      have h9 := same_any A1 A2 k k c1 c2 w1.heap.size w1.heap.size (rowsZ (margM W) k) (rowsZ (margM W) k) w1 (by simp [rowsZ]) (by simp [rowsZ]) (by omega) (fun l hl => by
        simp only [rowsZ, List.mem_map] at hl
        obtain ⟨x, _, rfl⟩ := hl
        rw [rowZ_len]; omega) h1 h2
      rw [decide_eq_true rfl] at h9
      exact h9
    generalize bestN (margM W) k = bs at *
    generalize rowsZ (margM W) k = T at *
    clear hv hrow hn hA hq hW
    go_enter Try.func12, Try.ntmps12
    have hb := Below.refl w.heap.size w
    go_wp2_with fail
    refine (HFE.out _ hb).mono ?_
    rintro e w1 ⟨A1, c1, rfl, hq1, hR1, hbn⟩
    replace hb := hb.trans (hbn.mono hb.size)
    clear hbn
    go_wp2_with fail
    refine (HMY.out _ _ _ hR1).mono ?_
    rintro e w2 ⟨X2, d2, rfl, hd2, hRT, hbn⟩
    replace hR1 := hR1.next hbn
    replace hb := hb.trans (hbn.mono hb.size)
    clear hbn
    clear hR1
    go_wp2_with fail
    refine (HFE.out _ hb).mono ?_
    rintro e w3 ⟨A3, c3, rfl, hq3, hR1, hbn⟩
    replace hRT := hRT.next hbn
    replace hb := hb.trans (hbn.mono hb.size)
    clear hbn
    go_wp2_with fail
    refine (HBY.out _ _ _ hR1).mono ?_
    rintro e w4 ⟨rfl, hbn⟩
    replace hRT := hRT.next hbn
    replace hR1 := hR1.next hbn
    replace hb := hb.trans (hbn.mono hb.size)
    clear hbn
    clear hR1
    go_wp2_with fail
    refine (HVA.out _ hb).mono ?_
    rintro e w5 ⟨rfl, rfl⟩
    go_wp2_with fail
    refine (HRM.out _ hb).mono ?_
    rintro e w6 ⟨X7, d7, rfl, hd7, hRU, hbn⟩
    replace hRT := hRT.next hbn
    replace hb := hb.trans (hbn.mono hb.size)
    clear hbn
    go_wp2_with fail
    refine (HSM.out _ _ _ _ _ hRT hRU).mono ?_
    rintro e w7 ⟨rfl, m7, rfl⟩
    replace hRT := hRT.keep (w' := w6.drewN m7) fun _ _ => rfl
    replace hRU := hRU.keep (w' := w6.drewN m7) fun _ _ => rfl
    replace hb := below_drewN hb m7
    replace hRT := hRT.more (B' := (w6.drewN m7).heap.size) (Nat.le_refl _)
    replace hRU := hRU.more (B' := (w6.drewN m7).heap.size) (Nat.le_refl _)
    generalize w6.drewN m7 = w7 at *
    go_wp2_with fail
    refine (HRB.out _ hb).mono ?_
    rintro e w8 ⟨rfl, rfl⟩
    go_wp2_with fail
    refine (awake_any _).mono ?_
    rintro e w9 ⟨rfl, hbn⟩
    replace hRT := hRT.next hbn
    replace hRU := hRU.next hbn
    replace hb := hb.trans (hbn.mono hb.size)
    clear hbn
    go_wp2
    go_ret
    exact ⟨rfl, hb⟩
end Go.Proofs.Ytejijddfepgnkaa
