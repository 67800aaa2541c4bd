/-
  The walk of VoteMajority.
-/
import Derived.Test.YtejijddfepgnkaaStrPlain
import Derived.Test.YtejijddfepgnkaaVoteBase
import Derived.Test.YtejijddfepgnkaaMarginsApi
import Derived.Test.YtejijddfepgnkaaWidthsApi
import Derived.Test.YtejijddfepgnkaaKemApi
import Derived.Test.YtejijddfepgnkaaMatRead
namespace Go.Proofs.Ytejijddfepgnkaa
open Go.RowKit
set_option linter.unusedVariables false
set_option linter.unusedSimpArgs false

set_option maxRecDepth 100000 in
set_option maxHeartbeats 3200000 in
theorem voteMajority_any (A : Option Addr) (n c : Nat) (L : List (List Int)) (w : World) (hn : L.length = n) (hlen : n ≤ 9223372036854775807) (hrow : ∀ l ∈ L, l.length ≤ 9223372036854775807) (hA : RowsA w w.heap.size A L) :
    Calls Try.prog 11 #[.slice A n c] w fun e w' => e = .returned (.bool true) ∧ Below w.heap.size w w' := by
  obtain ⟨q, hq⟩ : ∃ q, (fewV L).length = q := ⟨_, rfl⟩
  have HFE := hide (vew_in (c := c) hn hlen hrow hq hA)
  cases hv : votesB L
  · have HMN : Hid (∀ A' c' w1, RowsA w1 w1.heap.size A' (fewV L) → Calls Try.prog 33 #[.slice A' q c'] w1 fun e w' => e = .returned (.tuple #[.slice none 0 0, .int .i64 2]) ∧ Below w1.heap.size w1 w') := fun A' c' w1 h => Margins_no A' q c' (fewV L) w1 hq (by rw [← hq]; exact vew_len L) (vew_rows L) h (by rw [vew_valid]; exact hv)
    clear hv hrow hn hA hq
    go_enter Try.func11, Try.ntmps11
    have hb := Below.refl w.heap.size w
    go_wp2_with fail
    refine (HFE.out _ hb).mono ?_
    rintro e w1 ⟨A1, c1, rfl, hq1, hR1, hbn⟩
    replace hb := hb.trans (hbn.mono hb.size)
    clear hbn
    go_wp2_with fail
    refine (HMN.out _ _ _ hR1).mono ?_
    rintro e w2 ⟨rfl, hbn⟩
    replace hR1 := hR1.next hbn
    replace hb := hb.trans (hbn.mono hb.size)
    clear hbn
    clear hR1
    go_wp2_with fail
    refine (awake_any _).mono ?_
    rintro e w3 ⟨rfl, hbn⟩
    replace hb := hb.trans (hbn.mono hb.size)
    clear hbn
    go_wp2
    go_ret
    exact ⟨rfl, hb⟩
  · have hqn : q = n := by rw [← hq, vew_same hv, hn]
    subst hqn
    rw [vew_same hv] at HFE
    obtain ⟨k, W, hW, -⟩ := votes_of hv hn
    have hk5 := hW.ok.nle
    have hk1 := hW.ok.npos
    have HMY : Hid (∀ A' c' w1, RowsA w1 w1.heap.size A' L → Calls Try.prog 33 #[.slice A' q c'] w1 fun e w' => ∃ X c', e = .returned (.tuple #[.slice X k c', .int .i64 0]) ∧ k ≤ c' ∧ RowsA w' w'.heap.size X (rowsZ (margM W) k) ∧ Below w1.heap.size w1 w') := fun A' c' w1 h => Margins_yes A' q k c' W w1 hW.ok (by rw [hW.eq]; exact h) hW.valid
    have HWY : Hid (∀ A' c' w1, RowsA w1 w1.heap.size A' L → Calls Try.prog 38 #[.slice A' q c'] w1 fun e w' => ∃ X c', e = .returned (.tuple #[.slice X k c', .int .i64 0]) ∧ k ≤ c' ∧ RowsA w' w'.heap.size X (rowsZ (widM k (margM W)) k) ∧ Below w1.heap.size w1 w') := fun A' c' w1 h => Widths_yes A' q k c' W w1 hW.ok (by rw [hW.eq]; exact h) hW.valid
    have HBY : Hid (∀ A' c' w1, RowsA w1 w1.heap.size A' L → Calls Try.prog 39 #[.slice A' q c'] w1 fun e w' => e = .returned (.tuple #[.int .i64 (bestN (margM W) k : Nat), .int .i64 0]) ∧ Below w1.heap.size w1 w') := fun A' c' w1 h => Best_yes A' q k c' W w1 hW.ok (by rw [hW.eq]; exact h) hW.valid
    have HKY : Hid (∀ A' c' w1, RowsA w1 w1.heap.size A' L → Calls Try.prog 28 #[.slice A' q c'] w1 fun e w' => ∃ X cx, e = .returned (.tuple #[.slice X k cx, .int .i64 (disN W (kemO W k) : Nat), .int .i64 0]) ∧ k ≤ cx ∧ IntsA w' w'.heap.size X (up (kemO W k)) ∧ Below w1.heap.size w1 w') := fun A' c' w1 h =>
      (Kemeny_yes A' q k c' W w1 hW.ok (by rw [hW.eq]; exact h) hW.valid).mono fun e w' ⟨X, cx, h1, h2, h3, h4, _⟩ => ⟨X, cx, h1, h2, h3, h4⟩
    have HW2 : Hid (∀ A' c' w1, RowsA w1 w1.heap.size A' L → Calls Try.prog 22 #[.slice A' q c', .int .i64 2] w1 fun e w' => e = .returned (.tuple #[.int .i64 (winN W q k 2), .int .i64 0]) ∧ Below w1.heap.size w1 w') := fun A' c' w1 h => WinN_yes A' q k c' 2 W w1 (by omega) hW.ok hW.valid (by rw [hW.eq]; exact h)
    have HW3 : Hid (∀ A' c' w1, RowsA w1 w1.heap.size A' L → Calls Try.prog 22 #[.slice A' q c', .int .i64 3] w1 fun e w' => e = .returned (.tuple #[.int .i64 (winN W q k 3), .int .i64 0]) ∧ Below w1.heap.size w1 w') := fun A' c' w1 h => WinN_yes A' q k c' 3 W w1 (by omega) hW.ok hW.valid (by rw [hW.eq]; exact h)
    have HMR : Hid (∀ w1 B X, RowsA w1 B X (rowsZ (margM W) k) → ∀ a b, a < k → b < k → ∃ bx ox ba oa ca, X = some ⟨bx, ox, none⟩ ∧ bx < B ∧ w1.cell? ⟨bx, ox + a, none⟩ = some (.slice (some ⟨ba, oa, none⟩) k ca) ∧ ba < B ∧ w1.cell? ⟨ba, oa + b, none⟩ = some (.int .i64 (marg W a b))) := fun w1 B X h a b ha hb => by
      have := mat_read h ha hb
      rwa [margM_eq hW.ok ha hb] at this
    have HWR : Hid (∀ w1 B X, RowsA w1 B X (rowsZ (widM k (margM W)) k) → ∀ a b, a < k → b < k → ∃ bx ox ba oa ca, X = some ⟨bx, ox, none⟩ ∧ bx < B ∧ w1.cell? ⟨bx, ox + a, none⟩ = some (.slice (some ⟨ba, oa, none⟩) k ca) ∧ ba < B ∧ w1.cell? ⟨ba, oa + b, none⟩ = some (.int .i64 (widM k (margM W) a b))) := fun w1 B X h a b ha hb => mat_read h ha hb
    have hkl : (kemO W k).length = k := (kemO_spec W k).1.len
    have HYES : Hid (∀ a, a < k → Beats W k a → (bestN (margM W) k = 2 ^ a ∧ (kemO W k).getD 0 0 = a ∧ winN W q k 2 = (a : Nat) ∧ winN W q k 3 = (a : Nat)) ∧ ∀ c, c < k → ¬ widM k (margM W) a c < widM k (margM W) c a) := fun a ha hbe =>
      ⟨⟨beats_best hW.ok ha hbe, beats_first hW.ok ha hbe, by rw [winN, if_neg (by omega), if_neg (by omega), if_pos rfl]; exact beats_paths hW.ok ha hbe, by rw [winN, if_neg (by omega), if_neg (by omega), if_neg (by omega), beats_first hW.ok ha hbe]⟩, beats_strong hW.ok ha hbe⟩
    have HKL := hide hkl
    generalize kemO W k = ok at *
    generalize disN W ok = dk at *
    generalize winN W q k 2 = px at *
    generalize winN W q k 3 = py at *
    generalize bestN (margM W) k = bs at *
    generalize widM k (margM W) = D at *
    clear hv hrow hn hA hq hW hkl
    go_enter Try.func11, Try.ntmps11
    have hb := Below.refl w.heap.size w
    go_wp2_with fail
    refine (HFE.out _ hb).mono ?_
    rintro e w1 ⟨A1, c1, rfl, hq1, hR1, hbn⟩
    replace hb := hb.trans (hbn.mono hb.size)
    clear hbn
    go_wp2_with fail
    refine (HMY.out _ _ _ hR1).mono ?_
    rintro e w2 ⟨X2, d2, rfl, hd2, hRM, hbn⟩
    replace hR1 := hR1.next hbn
    replace hb := hb.trans (hbn.mono hb.size)
    clear hbn
    clear hR1
    go_wp2_with fail
    refine (HFE.out _ hb).mono ?_
    rintro e w3 ⟨A3, c3, rfl, hq3, hR1, hbn⟩
    replace hRM := hRM.next hbn
    replace hb := hb.trans (hbn.mono hb.size)
    clear hbn
    go_wp2_with fail
    refine (HBY.out _ _ _ hR1).mono ?_
    rintro e w4 ⟨rfl, hbn⟩
    replace hRM := hRM.next hbn
    replace hR1 := hR1.next hbn
    replace hb := hb.trans (hbn.mono hb.size)
    clear hbn
    clear hR1
    go_wp2_with fail
    refine (HFE.out _ hb).mono ?_
    rintro e w5 ⟨A5, c5, rfl, hq5, hR1, hbn⟩
    replace hRM := hRM.next hbn
    replace hb := hb.trans (hbn.mono hb.size)
    clear hbn
    go_wp2_with fail
    refine (HWY.out _ _ _ hR1).mono ?_
    rintro e w6 ⟨X6, d6, rfl, hd6, hRW, hbn⟩
    replace hRM := hRM.next hbn
    replace hR1 := hR1.next hbn
    replace hb := hb.trans (hbn.mono hb.size)
    clear hbn
    clear hR1
    go_wp2_with fail
    refine (HFE.out _ hb).mono ?_
    rintro e w7 ⟨A7, c7, rfl, hq7, hR1, hbn⟩
    replace hRM := hRM.next hbn
    replace hRW := hRW.next hbn
    replace hb := hb.trans (hbn.mono hb.size)
    clear hbn
    go_wp2_with fail
    refine (HKY.out _ _ _ hR1).mono ?_
    rintro e w8 ⟨X8, d8, rfl, hd8, hKI, hbn⟩
    replace hRM := hRM.next hbn
    replace hRW := hRW.next hbn
    replace hR1 := hR1.next hbn
    replace hb := hb.trans (hbn.mono hb.size)
    clear hbn
    clear hR1
    go_wp2_with fail
    refine (HFE.out _ hb).mono ?_
    rintro e w9 ⟨A9, c9, rfl, hq9, hR1, hbn⟩
    replace hRM := hRM.next hbn
    replace hRW := hRW.next hbn
    replace hKI := hKI.next hbn
    replace hb := hb.trans (hbn.mono hb.size)
    clear hbn
    go_wp2_with fail
    refine (HW2.out _ _ _ hR1).mono ?_
    rintro e w10 ⟨rfl, hbn⟩
    replace hRM := hRM.next hbn
    replace hRW := hRW.next hbn
    replace hKI := hKI.next hbn
    replace hR1 := hR1.next hbn
    replace hb := hb.trans (hbn.mono hb.size)
    clear hbn
    clear hR1
    go_wp2_with fail
    refine (HFE.out _ hb).mono ?_
    rintro e w11 ⟨A11, c11, rfl, hq11, hR1, hbn⟩
    replace hRM := hRM.next hbn
    replace hRW := hRW.next hbn
    replace hKI := hKI.next hbn
    replace hb := hb.trans (hbn.mono hb.size)
    clear hbn
    go_wp2_with fail
    refine (HW3.out _ _ _ hR1).mono ?_
    rintro e w12 ⟨rfl, hbn⟩
    replace hRM := hRM.next hbn
    replace hRW := hRW.next hbn
    replace hKI := hKI.next hbn
    replace hR1 := hR1.next hbn
    replace hb := hb.trans (hbn.mono hb.size)
    clear hbn
    clear hR1
    obtain ⟨w0, hw0⟩ : ∃ w0 : World, w0 = w12 := ⟨_, rfl⟩
    subst hw0
    have HRM := hide hRM
    have HRW := hide hRW
    have HB := hide hb
    obtain ⟨bo, oo, xo, rfl, hbo, hco, hxo⟩ := hKI.at_ (k := 0) (by rw [up_length, HKL.out]; omega)
    rw [Nat.add_zero] at hco
    have hxo2 := hxo.out
    rw [up_getD] at hxo2
    generalize ok.getD 0 0 = o0 at *
    obtain rfl := hxo2
    have HBO := hide hbo
    have HCO := hide hco
    clear hRM hRW hb hKI hxo hbo hco
    go_wp2
    go_loopw [97] (fun i wr => ∃ a : Nat, a ≤ k ∧ i = .int .i64 a ∧ Below w0.heap.size w0 wr) (fun i _ => k - (intOf i).toNat)
    case atStart => exact ⟨0, Nat.zero_le _, rfl, Below.refl _ _⟩
    case round =>
      obtain ⟨a, ha, rfl, hbel⟩ := hrel
      have HB1 := hide hbel
      by_cases hlt : a < k
      · obtain ⟨bx, ox, xa, oa, ca, rfl, hbx, hcx, hxa, -⟩ := HMR.out wr w0.heap.size X2 (HRM.out.below hbel) a a hlt hlt
        clear hbel
        go_wp2_with fail
        obtain ⟨wp, rfl⟩ : ∃ wp : World, wp = wr := ⟨_, rfl⟩
        clear hcx hxa
        go_loopw [16, 110] (fun p i wr => ∃ (b : Nat) (pl : Bool), b ≤ k ∧ i = .int .i64 b ∧ p = .bool pl ∧ Hid (pl = true → ∀ b', b' < b → a = b' ∨ 0 < marg W a b') ∧ Below w0.heap.size w0 wr) (fun _ i _ => k - (intOf i).toNat)
        case atStart => exact ⟨0, true, Nat.zero_le _, rfl, rfl, fun _ b' hb' => absurd hb' (by omega), HB1.out⟩
        case round =>
          obtain ⟨b, pl, hbk, rfl, rfl, hpl, hbel⟩ := hrel
          have HPL := hide hpl
          have HB2 := hide hbel
          by_cases hltb : b < k
          · cases pl with
            | false =>
              clear hpl hbel
              go_wp2
              go_roundw
              case rel => exact ⟨b + 1, false, by omega, by go_num, rfl, fun h => (by cases h), HB2.out⟩
              case measure => simp [intOf]; omega
            | true =>
              by_cases hab : a = b
              · subst hab
                have e1 : ((a : Int) == (a : Int)) = true := by simp
                clear hpl hbel
                go_wp2
                go_roundw
                case rel => exact ⟨a + 1, true, by omega, by go_num, rfl, fun _ b' hb' => by
                  by_cases e : b' = a
                  · exact .inl e.symm
                  · exact HPL.out.out rfl b' (by omega), HB2.out⟩
                case measure => simp [intOf]; omega
              · obtain ⟨bx2, ox2, xb, ob, cb, hX2, hbx2, hcx2, hxb, hcm2⟩ := HMR.out wr w0.heap.size _ (HRM.out.below hbel) a b hlt hltb
                injection hX2 with hX2; injection hX2 with e1 e2
                subst e1; subst e2
                have e1 : ((a : Int) == (b : Int)) = false := by simp; omega
                have hmm : marg W a b = marg W a b := rfl
                generalize hm2 : marg W a b = m2 at hcm2
                have HM2 := hide hm2
                clear hpl hbel hmm hm2
                by_cases g2 : 0 < m2
                · have d2 : decide (0 < m2) = true := decide_eq_true g2
                  have HG : Hid (0 < m2) := g2
                  clear g2
                  go_wp2
                  go_roundw
                  case rel => exact ⟨b + 1, true, by omega, by go_num, rfl, fun _ b' hb' => by
                    by_cases e : b' = b
                    · subst e; rw [HM2.out]; exact .inr HG.out
                    · exact HPL.out.out rfl b' (by omega), HB2.out⟩
                  case measure => simp [intOf]; omega
                · have d2 : decide (0 < m2) = false := decide_eq_false g2
                  clear g2
                  go_wp2
                  go_roundw
                  case rel => exact ⟨b + 1, false, by omega, by go_num, rfl, fun h => (by cases h), HB2.out⟩
                  case measure => simp [intOf]; omega
          · obtain rfl : k = b := by omega
            clear hpl hbel
            cases pl with
            | false =>
              go_wp2
              go_roundw
              case rel => exact ⟨a + 1, by omega, by go_num, HB2.out⟩
              case measure => simp [intOf]; omega
            | true =>
              obtain ⟨⟨y1, y2, y3, y4⟩, hst⟩ := HYES.out a hlt (HPL.out.out rfl)
              have HST := hide hst
              have Y : Hid (bs = 2 ^ a ∧ o0 = a ∧ px = (a : Nat) ∧ py = (a : Nat)) := ⟨y1, y2, y3, y4⟩
              clear y1 y2 y3 y4 hst
              go_wp2_with fail
              obtain ⟨wp, rfl⟩ : ∃ wp : World, wp = wr := ⟨_, rfl⟩
              go_loopw [134] (fun i wr => ∃ b : Nat, b ≤ k ∧ i = .int .i64 b ∧ Below w0.heap.size w0 wr) (fun i _ => k - (intOf i).toNat)
              case atStart => exact ⟨0, Nat.zero_le _, rfl, HB2.out⟩
              case round =>
                obtain ⟨b, hbk, rfl, hbel⟩ := hrel
                have HB3 := hide hbel
                by_cases hltb : b < k
                · by_cases hab : a = b
                  · subst hab
                    have e1 : ((a : Int) != (a : Int)) = false := by simp
                    clear hbel
                    go_wp2
                    go_quiet (fail)
                    go_wp2
                    go_roundw
                    case rel => exact ⟨a + 1, by omega, by go_num, below_drewN HB3.out _⟩
                    case measure => simp [intOf]; omega
                  · obtain ⟨bw, ow, xb, ob, cb, rfl, hbw, hcw, hxb, hcm⟩ := HWR.out wr w0.heap.size X6 (HRW.out.below hbel) a b hlt hltb
                    obtain ⟨bw2, ow2, xc, oc, cc, hX2, hbw2, hcw2, hxc, hcm2⟩ := HWR.out wr w0.heap.size _ (HRW.out.below hbel) b a hltb hlt
                    injection hX2 with hX2; injection hX2 with e1 e2
                    subst e1; subst e2
                    have e1 : ((a : Int) != (b : Int)) = true := by simp; omega
                    have hno := HST.out b hltb
                    generalize D a b = m1 at *
                    generalize D b a = m2 at *
                    have d2 : decide (m1 < m2) = false := decide_eq_false (by omega)
                    clear hbel hno
                    go_wp2
                    go_quiet (fail)
                    go_wp2
                    go_roundw
                    case rel => exact ⟨b + 1, by omega, by go_num, below_drewN HB3.out _⟩
                    case measure => simp [intOf]; omega
                · obtain rfl : k = b := by omega
                  have hco3 := (hbel.cell (p := ⟨bo, oo, none⟩) HBO.out).trans HCO.out
                  have hsa : wrap64 (2 ^ a) = ((2 ^ a : Nat) : Int) := shl_one a (by omega)
                  have f1 : ((bs : Int) != wrap64 (2 ^ a)) = false := by rw [hsa, Y.out.1]; simp
                  have f1' : ((bs : Int) != (2 : Int) ^ a) = false := by rw [Y.out.1]; simp
                  have f2 : ((o0 : Int) != (a : Int)) = false := by rw [Y.out.2.1]; simp
                  have f3 : (px != (a : Int)) = false := by rw [Y.out.2.2.1]; simp
                  have f4 : (py != (a : Int)) = false := by rw [Y.out.2.2.2]; simp
                  clear hbel hsa
                  go_wp2
                  go_roundw
                  case rel => exact ⟨a + 1, by omega, by go_num, HB3.out⟩
                  case measure => simp [intOf]; omega
      · obtain rfl : k = a := by omega
        clear hbel
        go_wp2_with (go_at_call 23; refine (awake_any _).mono ?_; rintro e w9 ⟨rfl, hb9⟩; have HB9 := hide hb9; clear hb9)
        go_ret
        exact ⟨rfl, (HB.out.trans (HB1.out.mono HB.out.size)).trans (HB9.out.mono (by have := HB.out.size; have := HB1.out.size; omega))⟩
end Go.Proofs.Ytejijddfepgnkaa
