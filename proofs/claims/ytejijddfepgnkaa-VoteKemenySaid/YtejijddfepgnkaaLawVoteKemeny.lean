/-
  The walk of VoteKemeny.
-/
import Derived.Test.YtejijddfepgnkaaRefKemeny
import Derived.Test.YtejijddfepgnkaaVoteBase
import Derived.Test.YtejijddfepgnkaaMarginsApi
namespace Go.Proofs.Ytejijddfepgnkaa
open Go.RowKit
set_option linter.unusedVariables false
set_option linter.unusedSimpArgs false

set_option maxRecDepth 100000 in
set_option maxHeartbeats 3200000 in
theorem voteKemeny_any (A : Option Addr) (n c : Nat) (L : List (List Int)) (X : Option Addr) (m cm : Nat) (l : List Int) (w : World) (hn : L.length = n) (hlen : n ≤ 9223372036854775807) (hrow : ∀ l ∈ L, l.length ≤ 9223372036854775807) (hA : RowsA w w.heap.size A L)
    (hm : l.length = m) (hmc : m ≤ cm) (hlm : m ≤ 9223372036854775807) (hX : IntsA w w.heap.size X l) :
    Calls Try.prog 4 #[.slice A n c, .slice X m cm] w fun e w' => e = .returned (.bool true) ∧ Below w.heap.size w w' := by
  obtain ⟨q, hq⟩ : ∃ q, (fewV L).length = q := ⟨_, rfl⟩
  obtain ⟨q2, hq2⟩ : ∃ q2, (l.take 11).length = q2 := ⟨_, rfl⟩
  have HFE := hide (vew_in (c := c) hn hlen hrow hq hA)
  have HLI := hide (vlist_in hm hmc hlm hq2 hX)
  have HVA := hide (refvalid_in (c := c) hn hlen hrow hA)
  have hq211 : q2 ≤ 11 := by rw [← hq2, List.length_take]; omega
  cases hv : votesB L
  · rw [hv] at HVA
    have HDN : Hid (∀ A' c' X' cx w1, RowsA w1 w1.heap.size A' (fewV L) → Calls Try.prog 27 #[.slice A' q c', .slice X' q2 cx] w1 fun e w' => e = .returned (.tuple #[.int .i64 0, .int .i64 2]) ∧ Below w1.heap.size w1 w') := fun A' c' X' cx w1 h => Disagreement_no A' X' q c' q2 cx (fewV L) l w1 hq (by rw [← hq]; exact vew_len L) (vew_rows L) h (by rw [vew_valid]; exact hv)
    have HKN : Hid (∀ A' c' w1, RowsA w1 w1.heap.size A' (fewV L) → Calls Try.prog 28 #[.slice A' q c'] w1 fun e w' => e = .returned (.tuple #[.slice none 0 0, .int .i64 0, .int .i64 2]) ∧ Below w1.heap.size w1 w') := fun A' c' w1 h => Kemeny_no A' q c' (fewV L) w1 hq (by rw [← hq]; exact vew_len L) (vew_rows L) h (by rw [vew_valid]; exact hv)
    clear hv hrow hn hA hq hm hX hq2
    go_enter Try.func4, Try.ntmps4
    have hb := Below.refl w.heap.size w
    go_wp2_with fail
    refine (HFE.out _ hb).mono ?_
    rintro e w1 ⟨A1, c1, rfl, hq1, hR1, hbn⟩
    replace hb := hb.trans (hbn.mono hb.size)
    clear hbn
    go_wp2_with fail
    refine (HLI.out _ hb).mono ?_
    rintro e w2 ⟨X1, d1, rfl, hd1, hI1, hbn⟩
    replace hR1 := hR1.next hbn
    replace hb := hb.trans (hbn.mono hb.size)
    clear hbn
    go_wp2_with fail
    refine (HDN.out _ _ _ _ _ hR1).mono ?_
    rintro e w3 ⟨rfl, hbn⟩
    replace hR1 := hR1.next hbn
    replace hI1 := hI1.next hbn
    replace hb := hb.trans (hbn.mono hb.size)
    clear hbn
    clear hR1
    clear hI1
    go_wp2_with fail
    refine (HFE.out _ hb).mono ?_
    rintro e w4 ⟨A2, c2, rfl, hq2, hR1, hbn⟩
    replace hb := hb.trans (hbn.mono hb.size)
    clear hbn
    go_wp2_with fail
    refine (HKN.out _ _ _ hR1).mono ?_
    rintro e w5 ⟨rfl, hbn⟩
    replace hR1 := hR1.next hbn
    replace hb := hb.trans (hbn.mono hb.size)
    clear hbn
    clear hR1
    go_wp2_with fail
    refine (HVA.out _ hb).mono ?_
    rintro e w6 ⟨rfl, rfl⟩
    go_wp2_with fail
    refine (awake_any _).mono ?_
    rintro e w7 ⟨rfl, hbn⟩
    replace hb := hb.trans (hbn.mono hb.size)
    clear hbn
    go_wp2
    go_ret
    exact ⟨rfl, hb⟩
  · rw [hv] at HVA
    have hqn : q = n := by rw [← hq, vew_same hv, hn]
    subst hqn
    rw [vew_same hv] at HFE
    obtain ⟨k, W, hW, -⟩ := votes_of hv hn
    have hk5 := hW.ok.nle
    have HKY : Hid (∀ A' c' w1, RowsA w1 w1.heap.size A' L → Calls Try.prog 28 #[.slice A' q c'] w1 fun e w' => ∃ X cx, e = .returned (.tuple #[.slice X k cx, .int .i64 (disN W (kemO W k) : Nat), .int .i64 0]) ∧ k ≤ cx ∧ IntsA w' w'.heap.size X (up (kemO W k)) ∧ Below w1.heap.size w1 w') := fun A' c' w1 h =>
      (Kemeny_yes A' q k c' W w1 hW.ok (by rw [hW.eq]; exact h) hW.valid).mono fun e w' ⟨X, cx, h1, h2, h3, h4, _⟩ => ⟨X, cx, h1, h2, h3, h4⟩
    have HRK : Hid (∀ w', Below w.heap.size w w' → Calls Try.prog 29 #[.slice A q c] w' fun e w'' => ∃ X cx, e = .returned (.tuple #[.slice X k cx, .int .i64 (disN W (kemO W k) : Nat)]) ∧ k ≤ cx ∧ IntsA w'' w''.heap.size X (up (kemO W k)) ∧ Below w'.heap.size w' w'') := fun w' hw' => refKemeny_any A q k c W w' hW.ok (by rw [hW.eq]; exact hA.next hw')
    have HDY : Hid (∀ A' c' X' cx w1, RowsA w1 w1.heap.size A' L → q2 ≤ cx → IntsA w1 w1.heap.size X' (l.take 11) → Calls Try.prog 27 #[.slice A' q c', .slice X' q2 cx] w1 fun e w' => e = .returned (.tuple (if ordB l k then #[.int .i64 (disN W (toN (l.take 11)) : Nat), .int .i64 0] else #[.int .i64 0, .int .i64 2])) ∧ Below w1.heap.size w1 w') := fun A' c' X' cx w1 h h2 h3 => by
      have := Disagreement_yes A' X' q k c' q2 cx W (l.take 11) w1 hW.ok (by rw [hW.eq]; exact h) hW.valid hq2 h2 (by omega) h3
      rw [vtake_ord hk5] at this
      exact this
    have HIO : Hid (∀ w', Below w.heap.size w w' → Calls Try.prog 31 #[.slice X m cm, .int .i64 (k : Nat)] w' fun e w'' => e = .returned (.bool (ordB l k)) ∧ w' = w'') := fun w' hw' => refIsOrder_any X m cm w.heap.size k l w' hm hlm (by omega) (hX.below hw')
    have HEQ : Hid (∀ (X1 X2 : Option Addr) (c1 c2 : Nat) w1, IntsA w1 w1.heap.size X1 (up (kemO W k)) → IntsA w1 w1.heap.size X2 (up (kemO W k)) → Calls Try.prog 30 #[.slice X1 k c1, .slice X2 k c2] w1 fun e w' => e = .returned (.bool true) ∧ ∃ m, w' = w1.drewN m) := fun X1 X2 c1 c2 w1 h1 h2 => by
      have h9 := (kemO_spec W k).1.len
      have := equal_any X1 X2 k k c1 c2 w1.heap.size w1.heap.size (up (kemO W k)) (up (kemO W k)) w1 (by rw [up_length, h9]) (by rw [up_length, h9]) (by omega) h1 h2
      rwa [decide_eq_true rfl] at this
    have hA2 : RowsA w w.heap.size A (upp W) := by rw [hW.eq]; exact hA
    obtain ⟨b0, o0, A0, n0, c0, hAe, hb0, hc0, hx0, hle0, hI0⟩ := hA2.at_ (k := 0) (by rw [upp_length, hW.ok.len]; exact hW.ok.pos)
    rw [upp_getD] at hx0
    obtain rfl : k = n0 := by have := hx0.out; rw [up_length, (hW.ok.rows 0 hW.ok.pos).len] at this; exact this
    rw [Nat.add_zero] at hc0
    have hqz : q ≠ 0 := by have := hW.ok.pos; omega
    cases ho : ordB l k with
    | false =>
      rw [ho] at HDY HIO
      have HDN : Hid (∀ A' c' X' cx w1, RowsA w1 w1.heap.size A' L → q2 ≤ cx → IntsA w1 w1.heap.size X' (l.take 11) → Calls Try.prog 27 #[.slice A' q c', .slice X' q2 cx] w1 fun e w' => e = .returned (.tuple #[.int .i64 0, .int .i64 2]) ∧ Below w1.heap.size w1 w') := HDY
      generalize disN W (kemO W k) = dk at *
      generalize kemO W k = ok at *
      subst hAe
      clear hv hrow hn hA hq hm hX hq2 hW hA2 hx0 hle0 hI0 HDY ho
      go_enter Try.func4, Try.ntmps4
      have hb := Below.refl w.heap.size w
      go_wp2_with fail
      refine (HFE.out _ hb).mono ?_
      rintro e w1 ⟨A1, c1, rfl, hq1, hR1, hbn⟩
      replace hb := hb.trans (hbn.mono hb.size)
      clear hbn
      go_wp2_with fail
      refine (HLI.out _ hb).mono ?_
      rintro e w2 ⟨X1, d1, rfl, hd1, hI1, hbn⟩
      replace hR1 := hR1.next hbn
      replace hb := hb.trans (hbn.mono hb.size)
      clear hbn
      go_wp2_with fail
      refine (HDN.out _ _ _ _ _ hR1 hd1 hI1).mono ?_
      rintro e w3 ⟨rfl, hbn⟩
      replace hR1 := hR1.next hbn
      replace hI1 := hI1.next hbn
      replace hb := hb.trans (hbn.mono hb.size)
      clear hbn
      clear hR1
      clear hI1
      go_wp2_with fail
      refine (HFE.out _ hb).mono ?_
      rintro e w4 ⟨A2, c2, rfl, hq2, hR1, hbn⟩
      replace hb := hb.trans (hbn.mono hb.size)
      clear hbn
      go_wp2_with fail
      refine (HKY.out _ _ _ hR1).mono ?_
      rintro e w5 ⟨X2, d2, rfl, hd2, hI2, hbn⟩
      replace hR1 := hR1.next hbn
      replace hb := hb.trans (hbn.mono hb.size)
      clear hbn
      clear hR1
      go_wp2_with fail
      refine (HVA.out _ hb).mono ?_
      rintro e w6 ⟨rfl, rfl⟩
      go_wp2_with fail
      refine (HRK.out _ hb).mono ?_
      rintro e w7 ⟨X3, d3, rfl, hd3, hI3, hbn⟩
      replace hI2 := hI2.next hbn
      replace hb := hb.trans (hbn.mono hb.size)
      clear hbn
      go_wp2_with fail
      refine (HEQ.out _ _ _ _ _ hI2 hI3).mono ?_
      rintro e w8 ⟨rfl, m8, rfl⟩
      replace hI2 := hI2.keep (w' := w7.drewN m8) fun _ _ => rfl
      replace hI3 := hI3.keep (w' := w7.drewN m8) fun _ _ => rfl
      replace hb := below_drewN hb m8
      replace hI2 := hI2.more (B' := (w7.drewN m8).heap.size) (Nat.le_refl _)
      replace hI3 := hI3.more (B' := (w7.drewN m8).heap.size) (Nat.le_refl _)
      generalize w7.drewN m8 = w8 at *
      clear hI2 hI3
      go_wp2_with fail
      refine (awake_any _).mono ?_
      rintro e w9 ⟨rfl, hbn⟩
      replace hb := hb.trans (hbn.mono hb.size)
      clear hbn
      have hc9 := (hb.cell (p := ⟨b0, o0, none⟩) hb0).trans hc0
      go_wp2_with fail
      refine (HIO.out _ hb).mono ?_
      rintro e w10 ⟨rfl, rfl⟩
      go_wp2
      go_ret
      exact ⟨rfl, hb⟩
    | true =>
      rw [ho] at HDY HIO
      rw [vtake_same hk5 ho] at HDY HLI hq2
      obtain ⟨hul, hoo⟩ := ord_of ho
      obtain ⟨o, hoe⟩ : ∃ o, toN l = o := ⟨_, rfl⟩
      rw [hoe] at hul hoo HDY
      have hmk : m = k := by rw [← hm, ← hul, up_length, hoo.len]
      have HDN : Hid (∀ A' c' X' cx w1, RowsA w1 w1.heap.size A' L → q2 ≤ cx → IntsA w1 w1.heap.size X' l → Calls Try.prog 27 #[.slice A' q c', .slice X' q2 cx] w1 fun e w' => e = .returned (.tuple #[.int .i64 (disN W o : Nat), .int .i64 0]) ∧ Below w1.heap.size w1 w') := HDY
      have HRD : Hid (∀ w', Below w.heap.size w w' → Calls Try.prog 32 #[.slice A q c, .slice X m cm] w' fun e w'' => e = .returned (.int .i64 (disN W o : Nat)) ∧ w' = w'') := fun w' hw' => by
        rw [hmk]
        exact refDis_any A X q k c cm w.heap.size W o w' hW.ok hoo (by omega) (hA2.below hw') (by rw [hul]; exact hX.below hw')
      generalize disN W (kemO W k) = dk at *
      generalize kemO W k = ok at *
      generalize disN W o = dd at *
      subst hAe
      clear hv hrow hn hA hq hm hX hq2 hW hA2 hx0 hle0 hI0 HDY ho hul hoo hoe hmk
      go_enter Try.func4, Try.ntmps4
      have hb := Below.refl w.heap.size w
      go_wp2_with fail
      refine (HFE.out _ hb).mono ?_
      rintro e w1 ⟨A1, c1, rfl, hq1, hR1, hbn⟩
      replace hb := hb.trans (hbn.mono hb.size)
      clear hbn
      go_wp2_with fail
      refine (HLI.out _ hb).mono ?_
      rintro e w2 ⟨X1, d1, rfl, hd1, hI1, hbn⟩
      replace hR1 := hR1.next hbn
      replace hb := hb.trans (hbn.mono hb.size)
      clear hbn
      go_wp2_with fail
      refine (HDN.out _ _ _ _ _ hR1 hd1 hI1).mono ?_
      rintro e w3 ⟨rfl, hbn⟩
      replace hR1 := hR1.next hbn
      replace hI1 := hI1.next hbn
      replace hb := hb.trans (hbn.mono hb.size)
      clear hbn
      clear hR1
      clear hI1
      go_wp2_with fail
      refine (HFE.out _ hb).mono ?_
      rintro e w4 ⟨A2, c2, rfl, hq2, hR1, hbn⟩
      replace hb := hb.trans (hbn.mono hb.size)
      clear hbn
      go_wp2_with fail
      refine (HKY.out _ _ _ hR1).mono ?_
      rintro e w5 ⟨X2, d2, rfl, hd2, hI2, hbn⟩
      replace hR1 := hR1.next hbn
      replace hb := hb.trans (hbn.mono hb.size)
      clear hbn
      clear hR1
      go_wp2_with fail
      refine (HVA.out _ hb).mono ?_
      rintro e w6 ⟨rfl, rfl⟩
      go_wp2_with fail
      refine (HRK.out _ hb).mono ?_
      rintro e w7 ⟨X3, d3, rfl, hd3, hI3, hbn⟩
      replace hI2 := hI2.next hbn
      replace hb := hb.trans (hbn.mono hb.size)
      clear hbn
      go_wp2_with fail
      refine (HEQ.out _ _ _ _ _ hI2 hI3).mono ?_
      rintro e w8 ⟨rfl, m8, rfl⟩
      replace hI2 := hI2.keep (w' := w7.drewN m8) fun _ _ => rfl
      replace hI3 := hI3.keep (w' := w7.drewN m8) fun _ _ => rfl
      replace hb := below_drewN hb m8
      replace hI2 := hI2.more (B' := (w7.drewN m8).heap.size) (Nat.le_refl _)
      replace hI3 := hI3.more (B' := (w7.drewN m8).heap.size) (Nat.le_refl _)
      generalize w7.drewN m8 = w8 at *
      clear hI2 hI3
      go_wp2_with fail
      refine (awake_any _).mono ?_
      rintro e w9 ⟨rfl, hbn⟩
      replace hb := hb.trans (hbn.mono hb.size)
      clear hbn
      have hc9 := (hb.cell (p := ⟨b0, o0, none⟩) hb0).trans hc0
      go_wp2_with fail
      refine (HIO.out _ hb).mono ?_
      rintro e w10 ⟨rfl, rfl⟩
      go_wp2_with fail
      refine (HRD.out _ hb).mono ?_
      rintro e w11 ⟨rfl, rfl⟩
      go_wp2
      go_ret
      exact ⟨rfl, hb⟩
end Go.Proofs.Ytejijddfepgnkaa
