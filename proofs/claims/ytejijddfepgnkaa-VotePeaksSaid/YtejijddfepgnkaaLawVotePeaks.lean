/-
  The walk of VotePeaks.
-/
import Derived.Test.YtejijddfepgnkaaPeaksPlain
import Derived.Test.YtejijddfepgnkaaBendNo
import Derived.Test.YtejijddfepgnkaaVoteBase
import Derived.Test.YtejijddfepgnkaaMarginsApi
import Derived.Test.YtejijddfepgnkaaWinV
import Derived.Test.YtejijddfepgnkaaAxisApi
import Derived.Test.YtejijddfepgnkaaMatRead
namespace Go.Proofs.Ytejijddfepgnkaa
open Go.RowKit
set_option linter.unusedVariables false
set_option linter.unusedSimpArgs false

theorem pk_rem2 {q : Nat} : ((q : Int) % 2 == 0) = decide (q % 2 = 0) := by
  by_cases h : q % 2 = 0
  · rw [decide_eq_true h]; simp; omega
  · rw [decide_eq_false h]; simp; omega

set_option maxRecDepth 100000 in
set_option maxHeartbeats 6400000 in
theorem votePeaks_any (A : Option Addr) (n c : Nat) (L : List (List Int)) (w : World) (hn : L.length = n) (hlen : n ≤ 9223372036854775807) (hrow : ∀ l ∈ L, l.length ≤ 9223372036854775807) (hA : RowsA w w.heap.size A L) :
    Calls Try.prog 15 #[.slice A n c] w fun e w' => e = .returned (.bool true) ∧ Below w.heap.size w w' := by
  obtain ⟨q, hq⟩ : ∃ q, (fewV L).length = q := ⟨_, rfl⟩
  have HFE := hide (vew_in (c := c) hn hlen hrow hq hA)
  have HVA := hide (refvalid_in (c := c) hn hlen hrow hA)
  cases hv : votesB L
  · have hq1 : q ≤ 9223372036854775807 := by rw [← hq]; exact vew_len L
    have HAN : Hid (∀ A' c' w1, RowsA w1 w1.heap.size A' (fewV L) → Calls Try.prog 37 #[.slice A' q c'] w1 fun e w' => e = .returned (.tuple #[.slice none 0 0, .int .i64 2]) ∧ Below w1.heap.size w1 w') := fun A' c' w1 h => Axis_no A' q c' (fewV L) w1 hq hq1 (vew_rows L) h (by rw [vew_valid]; exact hv)
    have HBN : Hid (∀ A' c' w1, RowsA w1 w1.heap.size A' (fewV L) → Calls Try.prog 47 #[.slice A' q c'] w1 fun e w' => e = .returned (.tuple #[.slice none 0 0, .slice none 0 0, .int .i64 2]) ∧ Below w1.heap.size w1 w') := fun A' c' w1 h => Bend_no A' q c' (fewV L) w1 hq hq1 (vew_rows L) h (by rw [vew_valid]; exact hv)
    clear hv hrow hn hA hq HVA
    go_enter Try.func15, Try.ntmps15
    have hb := Below.refl w.heap.size w
    go_wp2_with fail
    refine (HFE.out _ hb).mono ?_
    rintro e w1 ⟨A1, c1, rfl, hq1, hR1, hbn⟩
    replace hb := hb.trans (hbn.mono hb.size)
    clear hbn
    go_wp2_with fail
    refine (HAN.out _ _ _ hR1).mono ?_
    rintro e w2 ⟨rfl, hbn⟩
    replace hR1 := hR1.next hbn
    replace hb := hb.trans (hbn.mono hb.size)
    clear hbn
    clear hR1
    go_wp2_with fail
    refine (HFE.out _ hb).mono ?_
    rintro e w3 ⟨A1, c1, rfl, hq1, hR1, hbn⟩
    replace hb := hb.trans (hbn.mono hb.size)
    clear hbn
    go_wp2_with fail
    refine (HBN.out _ _ _ hR1).mono ?_
    rintro e w4 ⟨rfl, hbn⟩
    replace hR1 := hR1.next hbn
    replace hb := hb.trans (hbn.mono hb.size)
    clear hbn
    clear hR1
    go_wp2_with fail
    refine (awake_any _).mono ?_
    rintro e w5 ⟨rfl, hbn⟩
    replace hb := hb.trans (hbn.mono hb.size)
    clear hbn
    go_wp2
    go_ret
    exact ⟨rfl, hb⟩
  · have hqn : q = n := by rw [← hq, vew_same hv, hn]
    subst hqn
    rw [vew_same hv] at HFE
    rw [hv] at HVA
    obtain ⟨k, W, hW, hk0⟩ := votes_of hv hn
    have hk5 := hW.ok.nle
    have hk1 := hW.ok.npos
    have hn1 := hW.ok.pos
    have hn9 := hW.ok.le
    have HAr : Hid (∀ w', Below w.heap.size w w' → RowsA w' w.heap.size A (upp W)) := fun w' h => by rw [hW.eq]; exact hA.below h
    have hax : axF W (List.range k) (List.range q) = axN W q k := rfl
    obtain ⟨b0, o0, A0, n0, c0, rfl, hb0, hc0, hx0, hle0, hI0⟩ := hA.at_ (k := 0) (by omega)
    obtain rfl : n0 = k := by rw [← hx0.out, hk0]
    rw [Nat.add_zero] at hc0
    have hi0 : (0 : Int) < (q : Int) := by omega
    have HC0 : Hid (∀ w', Below w.heap.size w w' → w'.cell? ⟨b0, o0, none⟩ = some (.slice A0 n0 c0)) := fun w' h => (h.cell (p := ⟨b0, o0, none⟩) hb0).trans hc0
    have HAY : Hid (∀ A' c' w1, RowsA w1 w1.heap.size A' L → Calls Try.prog 37 #[.slice A' q c'] w1 (AxisPost (axN W q n0) n0 w1)) := fun A' c' w1 h => Axis_yes A' q n0 c' W w1 hW.ok (by rw [hW.eq]; exact h) hW.valid
    have HRE := hide (pk_rem2 (q := q))
    clear hI0 hx0 hc0 hle0 hk0
    cases ha : axN W q n0 with
    | some o =>
      rw [ha] at HAY hax
      have HBA : Hid (∀ A' c' w1, RowsA w1 w1.heap.size A' L → Calls Try.prog 47 #[.slice A' q c'] w1 fun e w' => e = .returned (.tuple #[.slice none 0 0, .slice none 0 0, .int .i64 4]) ∧ Below w1.heap.size w1 w') := fun A' c' w1 h => Bend_axis A' q n0 c' W o w1 hW.ok hW.valid (by rw [hW.eq]; exact h) hax
      obtain ⟨ho, hpk⟩ := axN_some hW.ok ha
      rcases Nat.mod_two_eq_zero_or_one q with hev | hodd
      · have hre : ((q : Int) % 2 == 0) = true := by rw [HRE.out]; exact decide_eq_true hev
        clear ha hax hv hrow hn hA hq hW ho hpk hev
        go_enter Try.func15, Try.ntmps15
        have hb := Below.refl w.heap.size w
        go_wp2_with fail
        refine (HFE.out _ hb).mono ?_
        rintro e w1 ⟨A1, c1, rfl, hq1, hR1, hbn⟩
        replace hb := hb.trans (hbn.mono hb.size)
        clear hbn
        go_wp2_with fail
        refine (HAY.out _ _ _ hR1).mono ?_
        rintro e w2 ⟨⟨X1, x1, rfl, hx1, hol, hK1⟩, hbn⟩
        replace hR1 := hR1.next hbn
        replace hb := hb.trans (hbn.mono hb.size)
        clear hbn
        clear hR1
        go_wp2_with fail
        refine (HFE.out _ hb).mono ?_
        rintro e w3 ⟨A1, c1, rfl, hq1, hR1, hbn⟩
        replace hK1 := hK1.next hbn
        replace hb := hb.trans (hbn.mono hb.size)
        clear hbn
        go_wp2_with fail
        refine (HBA.out _ _ _ hR1).mono ?_
        rintro e w4 ⟨rfl, hbn⟩
        replace hK1 := hK1.next hbn
        replace hR1 := hR1.next hbn
        replace hb := hb.trans (hbn.mono hb.size)
        clear hbn
        clear hR1
        have hc0' := HC0.out _ hb
        go_wp2_with fail
        refine (HVA.out _ hb).mono ?_
        rintro e w5 ⟨rfl, rfl⟩
        go_wp2_with fail
        refine (awake_any _).mono ?_
        rintro e w6 ⟨rfl, hbn⟩
        replace hK1 := hK1.next hbn
        replace hb := hb.trans (hbn.mono hb.size)
        clear hbn
        go_wp2
        go_ret
        exact ⟨rfl, hb⟩
      · have hre : ((q : Int) % 2 == 0) = false := by rw [HRE.out]; exact decide_eq_false (by omega)
        obtain ⟨m, hm⟩ := mid_of hW.ok ho
        have HMY : Hid (∀ A' c' w1, RowsA w1 w1.heap.size A' L → Calls Try.prog 33 #[.slice A' q c'] w1 fun e w' => ∃ X c', e = .returned (.tuple #[.slice X n0 c', .int .i64 0]) ∧ n0 ≤ c' ∧ RowsA w' w'.heap.size X (rowsZ (margM W) n0) ∧ Below w1.heap.size w1 w') := fun A' c' w1 h => Margins_yes A' q n0 c' W w1 hW.ok (by rw [hW.eq]; exact h) hW.valid
        have HWN : Hid (∀ A' c' w1, RowsA w1 w1.heap.size A' L → Calls Try.prog 22 #[.slice A' q c', .int .i64 2] w1 fun e w' => e = .returned (.tuple #[.int .i64 ((o.getD m 0 : Nat) : Int), .int .i64 0]) ∧ Below w1.heap.size w1 w') := fun A' c' w1 h => by
          have := WinN_yes A' q n0 c' 2 W w1 (by omega) hW.ok hW.valid (by rw [hW.eq]; exact h)
          have e : winN W q n0 2 = ((o.getD m 0 : Nat) : Int) := by
            show pathsN (widM n0 (margM W)) n0 = _
            exact mid_wins hW.ok hodd ho hpk hm
          rw [e] at this
          exact this
        have hbt := mid_beats hW.ok hodd ho hpk hm
        have HBT : Hid (∀ d, d < n0 → o.getD m 0 ≠ d → 0 < margM W (o.getD m 0) d) := fun d hd hne => by
          rw [margM_eq hW.ok (ho.getD_lt hm.lt) hd]
          exact (hbt d hd).resolve_left hne
        have hmr := fun (w1 : World) (B : Nat) (X : Option Addr) (h : RowsA w1 B X (rowsZ (margM W) n0)) (b : Nat) (hb : b < n0) => mat_read h (ho.getD_lt hm.lt) hb
        have HMR := hide hmr
        generalize margM W = M1 at *
        have HL1 : Hid (∀ j, j < m → 2 * leTo W o (j + 1) < q) := fun j hj => mid_before hW.ok hodd hm hj
        have HL2 : Hid (¬ 2 * leTo W o (m + 1) < q) := mid_at hW.ok hm
        have HLA : Hid (∀ j, j < n0 → leTo W o j + atTo W o j q = leTo W o (j + 1)) := fun j hj => atTo_all hW.ok ho hj
        have HLS : Hid (∀ j t, t < q → atTo W o j (t + 1) = atTo W o j t + if (W.getD t []).getD 0 0 = o.getD j 0 then 1 else 0) := fun j t ht => atTo_succ (by rw [hW.ok.len]; exact ht)
        have HLE : Hid (∀ j, leTo W o j ≤ q) := fun j => by have := leTo_le W o j; rwa [hW.ok.len] at this
        have HOL := hide ho.len
        have HOB : Hid (o.getD m 0 < n0) := ho.getD_lt hm.lt
        have hmn := hm.lt
        have HW := hide hW.ok
        clear ha hax hv hrow hn hA hq hW ho hpk hm hbt hodd hmr
        obtain ⟨am, ham⟩ : ∃ am, o.getD m 0 = am := ⟨_, rfl⟩
        rw [ham] at HWN HBT HMR HOB
        have HAM := hide ham
        clear ham
        go_enter Try.func15, Try.ntmps15
        have hb := Below.refl w.heap.size w
        go_wp2_with fail
        refine (HFE.out _ hb).mono ?_
        rintro e w1 ⟨A1, c1, rfl, hq1, hR1, hbn⟩
        replace hb := hb.trans (hbn.mono hb.size)
        clear hbn
        go_wp2_with fail
        refine (HAY.out _ _ _ hR1).mono ?_
        rintro e w2 ⟨⟨X1, x1, rfl, hx1, hol, hK1⟩, hbn⟩
        replace hR1 := hR1.next hbn
        replace hb := hb.trans (hbn.mono hb.size)
        clear hbn
        clear hR1
        go_wp2_with fail
        refine (HFE.out _ hb).mono ?_
        rintro e w3 ⟨A1, c1, rfl, hq1, hR1, hbn⟩
        replace hK1 := hK1.next hbn
        replace hb := hb.trans (hbn.mono hb.size)
        clear hbn
        go_wp2_with fail
        refine (HBA.out _ _ _ hR1).mono ?_
        rintro e w4 ⟨rfl, hbn⟩
        replace hK1 := hK1.next hbn
        replace hR1 := hR1.next hbn
        replace hb := hb.trans (hbn.mono hb.size)
        clear hbn
        clear hR1
        have hc0' := HC0.out _ hb
        go_wp2_with fail
        refine (HVA.out _ hb).mono ?_
        rintro e w5 ⟨rfl, rfl⟩
        go_wp2_with fail
        refine (HFE.out _ hb).mono ?_
        rintro e w6 ⟨A1, c1, rfl, hq1, hR1, hbn⟩
        replace hK1 := hK1.next hbn
        replace hb := hb.trans (hbn.mono hb.size)
        clear hbn
        go_wp2_with fail
        refine (HMY.out _ _ _ hR1).mono ?_
        rintro e w7 ⟨X3, x3, rfl, hx3, hM1, hbn⟩
        replace hK1 := hK1.next hbn
        replace hR1 := hR1.next hbn
        replace hb := hb.trans (hbn.mono hb.size)
        clear hbn
        clear hR1
        go_wp2_with fail
        refine (HFE.out _ hb).mono ?_
        rintro e w8 ⟨A1, c1, rfl, hq1, hR1, hbn⟩
        replace hK1 := hK1.next hbn
        replace hM1 := hM1.next hbn
        replace hb := hb.trans (hbn.mono hb.size)
        clear hbn
        go_wp2_with fail
        refine (HWN.out _ _ _ hR1).mono ?_
        rintro e w9 ⟨rfl, hbn⟩
        replace hK1 := hK1.next hbn
        replace hM1 := hM1.next hbn
        replace hR1 := hR1.next hbn
        replace hb := hb.trans (hbn.mono hb.size)
        clear hbn
        clear hR1
        obtain ⟨wz, hwz⟩ : ∃ wz : World, wz = w9 := ⟨_, rfl⟩
        subst hwz
        have HK1 := hide hK1
        have HM1 := hide hM1
        have HBZ := hide hb
        have hbz := hb.size
        clear hK1 hM1 hb hc0'
        go_wp2_with fail
        go_loopw [12, 117] (fun cnt i wr => ∃ j : Nat, j ≤ m ∧ i = .int .i64 j ∧ cnt = .int .i64 (leTo W o j : Nat) ∧ Below wz.heap.size wz wr) (fun _ i _ => m + 1 - (intOf i).toNat)
        case atStart => exact ⟨0, Nat.zero_le _, rfl, by rw [leTo_zero]; rfl, Below.refl _ _⟩
        case round =>
          obtain ⟨j, hj, rfl, rfl, hbel⟩ := hrel
          have HW1 := hide hbel
          have hjn : j < n0 := by omega
          obtain ⟨b1, o1, oj, rfl, hb1, hc1, hxj⟩ := (HK1.out.below hbel).at_ (k := j) (by rw [up_length, HOL.out]; exact hjn)
          have hxj' : oj = ((o.getD j 0 : Nat) : Int) := by rw [← up_getD]; exact hxj.out.symm
          subst hxj'
          have hjl : (j : Int) < (n0 : Int) := by omega
          obtain ⟨cn, hcn⟩ : ∃ cn, leTo W o j = cn := ⟨_, rfl⟩
          have HCN := hide hcn
          have hcq : cn ≤ q := by rw [← hcn]; exact HLE.out j
          obtain ⟨a, haj⟩ : ∃ a, o.getD j 0 = a := ⟨_, rfl⟩
          have HAJ := hide haj
          rw [hcn]
          rw [haj] at hc1
          clear hbel hxj hcn haj
          go_wp2_with fail
          obtain ⟨wp, rfl⟩ : ∃ wp : World, wp = wr := ⟨_, rfl⟩
          go_loopw [12, 123] (fun cnt i wr => ∃ t : Nat, t ≤ q ∧ i = .int .i64 t ∧ cnt = .int .i64 (cn + atTo W o j t : Nat) ∧ Below wz.heap.size wz wr) (fun _ i _ => q + 1 - (intOf i).toNat)
          case atStart => exact ⟨0, Nat.zero_le _, rfl, by simp [atTo], HW1.out⟩
          case round =>
            clear hc1
            obtain ⟨t, ht, rfl, rfl, hbel⟩ := hrel
            have HW2 := hide hbel
            have hbw := HBZ.out.trans (hbel.mono hbz)
            have hta := atTo_le W o j t
            by_cases hltt : t < q
            · obtain ⟨b2, o2, At, nt, ct, hA2, hb2, hc2, hx2, hle2, hI2⟩ := (HAr.out wr hbw).at_ (k := t) (by rw [upp_length, HW.out.len]; exact hltt)
              injection hA2 with hA2; injection hA2 with e1 e2
              subst e1; subst e2
              rw [upp_getD] at hI2 hx2
              obtain rfl : n0 = nt := by have := hx2.out; rw [up_length, (HW.out.rows t hltt).len] at this; exact this
              obtain ⟨b3, o3, y, rfl, hb3, hc3, hx3⟩ := hI2.at_ (k := 0) (by rw [up_length, (HW.out.rows t hltt).len]; omega)
              have hy : y = (((W.getD t []).getD 0 0 : Nat) : Int) := by rw [← up_getD]; exact hx3.out.symm
              subst hy
              rw [Nat.add_zero] at hc3
              have hls := HLS.out j t hltt
              rw [HAJ.out] at hls
              obtain ⟨f, hf⟩ : ∃ f, (W.getD t []).getD 0 0 = f := ⟨_, rfl⟩
              rw [hf] at hc3 hls
              obtain ⟨at0, hat0⟩ : ∃ at0, atTo W o j t = at0 := ⟨_, rfl⟩
              rw [hat0] at hls hta ⊢
              have htl : (t : Int) < (q : Int) := by omega
              have h0n : (0 : Int) < (n0 : Int) := by omega
              clear hbel hx2 hx3 hI2 hf hat0 hle2 hb2 hb3
              obtain ⟨cz, hcz⟩ : ∃ cz, cn + at0 = cz := ⟨_, rfl⟩
              rw [hcz]
              have HCZ := hide hcz
              have hczq : cz ≤ q + q := by omega
              clear hcz
              by_cases e : f = a
              · have eb : ((f : Int) == (a : Int)) = true := by simp [e]
                rw [if_pos e] at hls
                have HLS1 := hide hls
                clear hls e
                go_wp2
                go_roundw
                case rel => exact ⟨t + 1, by omega, by go_num, by have h1 := HLS1.out; have h2 := HCZ.out; rw [show cn + atTo W o j (t + 1) = cz + 1 by omega]; go_num, HW2.out⟩
                case measure => simp [intOf]; omega
              · have eb : ((f : Int) == (a : Int)) = false := by simp; omega
                rw [if_neg e] at hls
                have HLS1 := hide hls
                clear hls e
                go_wp2
                go_roundw
                case rel => exact ⟨t + 1, by omega, by go_num, by have h1 := HLS1.out; have h2 := HCZ.out; rw [show cn + atTo W o j (t + 1) = cz by omega], HW2.out⟩
                case measure => simp [intOf]; omega
            · obtain rfl : q = t := by omega
              have hall := HLA.out j hjn
              rw [HCN.out] at hall
              rw [hall]
              have hle1 := HLE.out (j + 1)
              by_cases hjm : j < m
              · have h2 := HL1.out j hjm
                obtain ⟨cz, hcz⟩ : ∃ cz, leTo W o (j + 1) = cz := ⟨_, rfl⟩
                rw [hcz] at h2 hle1 ⊢
                have HCZ := hide hcz
                have hd : decide (2 * (cz : Int) < (q : Int)) = true := decide_eq_true (by omega)
                clear hcz hall hbel hta
                go_wp2
                go_roundw
                case rel => exact ⟨j + 1, by omega, by go_num, by rw [HCZ.out], HW2.out⟩
                case measure => simp [intOf]; omega
              · obtain rfl : m = j := by omega
                have h2 := HL2.out
                obtain ⟨cz, hcz⟩ : ∃ cz, leTo W o (m + 1) = cz := ⟨_, rfl⟩
                rw [hcz] at h2 hle1 ⊢
                have hd : decide (2 * (cz : Int) < (q : Int)) = false := decide_eq_false (by omega)
                have hc0' := HC0.out _ hbw
                obtain rfl : a = am := by rw [← HAJ.out, HAM.out]
                clear hcz hall hbel hta h2
                go_wp2_with fail
                clear hc0'
                go_loopw [144] (fun i wr => ∃ d : Nat, d ≤ n0 ∧ i = .int .i64 d ∧ Below wz.heap.size wz wr) (fun i _ => n0 + 1 - (intOf i).toNat)
                case atStart => exact ⟨0, Nat.zero_le _, rfl, HW2.out⟩
                case round =>
                  obtain ⟨d, hd9, rfl, hbel⟩ := hrel
                  have HW3 := hide hbel
                  have hbw := HBZ.out.trans (hbel.mono hbz)
                  by_cases hltd : d < n0
                  · obtain ⟨bx, ox, ba, oa, ca, rfl, hbx, hcx, hba, hcm⟩ := HMR.out wr wz.heap.size X3 (HM1.out.below hbel) d hltd
                    have hc0' := HC0.out _ hbw
                    have hbt := HBT.out d hltd
                    have han : (a : Int) < (n0 : Int) := by have := HOB.out; omega
                    generalize M1 a d = md at *
                    by_cases e : a = d
                    · have eb : ((a : Int) != (d : Int)) = false := by simp [e]
                      clear hbel e hcx hcm hbt
                      go_wp2
                      go_roundw
                      case rel => exact ⟨d + 1, by omega, by go_num, HW3.out⟩
                      case measure => simp [intOf]; omega
                    · have eb : ((a : Int) != (d : Int)) = true := by simp; omega
                      have hmd : decide (md ≤ 0) = false := decide_eq_false (by have := hbt e; omega)
                      clear hbel e hbt
                      go_wp2
                      go_roundw
                      case rel => exact ⟨d + 1, by omega, by go_num, HW3.out⟩
                      case measure => simp [intOf]; omega
                  · obtain rfl : n0 = d := by omega
                    have hb := HBZ.out.trans (HW3.out.mono hbz)
                    clear hbel
                    go_wp2_with fail
                    refine (awake_any _).mono ?_
                    rintro e w99 ⟨rfl, hbn⟩
                    replace hb := hb.trans (hbn.mono hb.size)
                    clear hbn
                    go_wp2
                    go_ret
                    exact ⟨rfl, hb⟩
    | none =>
      rw [ha] at HAY hax
      have hn3 := ax_three hW.ok ha
      have HBY : Hid (∀ A' c' w1, RowsA w1 w1.heap.size A' L → Calls Try.prog 47 #[.slice A' q c'] w1 fun e w' => ∃ kk vv vs nm X cx Y cy, e = .returned (.tuple #[.slice X vv cx, .slice Y kk cy, .int .i64 0]) ∧ 3 ≤ kk ∧ kk ≤ n0 ∧ 1 ≤ vv ∧ vv ≤ q ∧ Hid (BendIs W q n0 kk vv vs nm) ∧ vv ≤ cx ∧ kk ≤ cy ∧ IntsA w' w'.heap.size X (up vs) ∧ IntsA w' w'.heap.size Y (up nm) ∧ Below w1.heap.size w1 w') := fun A' c' w1 h =>
        (Bend_yes A' q n0 c' W w1 hW.ok hW.valid (by rw [hW.eq]; exact h) hax hn3).mono fun e w' ⟨kk, vv, vs, nm, X, cx, Y, cy, e1, h1, h2, h3, h4, h5, h6, h7, h8, h9, h10, h11, h12, h13⟩ =>
          ⟨kk, vv, vs, nm, X, cx, Y, cy, e1, h1, h2, h3, h4, bend_is hW.ok h1 h2 h3 h4 h5 h6, h9, h10, h11, h12, h13⟩
      have HW := hide hW.ok
      clear ha hax hv hrow hn hA hq hW
      go_enter Try.func15, Try.ntmps15
      have hb := Below.refl w.heap.size w
      go_wp2_with fail
      refine (HFE.out _ hb).mono ?_
      rintro e w1 ⟨A1, c1, rfl, hq1, hR1, hbn⟩
      replace hb := hb.trans (hbn.mono hb.size)
      clear hbn
      go_wp2_with fail
      refine (HAY.out _ _ _ hR1).mono ?_
      rintro e w2 ⟨rfl, hbn⟩
      replace hR1 := hR1.next hbn
      replace hb := hb.trans (hbn.mono hb.size)
      clear hbn
      clear hR1
      go_wp2_with fail
      refine (HFE.out _ hb).mono ?_
      rintro e w3 ⟨A1, c1, rfl, hq1, hR1, hbn⟩
      replace hb := hb.trans (hbn.mono hb.size)
      clear hbn
      go_wp2_with fail
      refine (HBY.out _ _ _ hR1).mono ?_
      rintro e w4 ⟨kk, vv, vs, nm, X2, x2, Y2, y2, rfl, hkk3, hkk, hvv1, hvv, hBI, hx2, hy2, hV, hN, hbn⟩
      replace hR1 := hR1.next hbn
      replace hb := hb.trans (hbn.mono hb.size)
      clear hbn
      clear hR1
      have hc0' := HC0.out _ hb
      go_wp2_with fail
      refine (HVA.out _ hb).mono ?_
      rintro e w5 ⟨rfl, rfl⟩
      obtain ⟨wz, hwz⟩ : ∃ wz : World, wz = w4 := ⟨_, rfl⟩
      subst hwz
      have HPA : Hid (∀ A' c' w1, RowsA w1 w1.heap.size A' (upp (partW W nm vs)) → Calls Try.prog 37 #[.slice A' vv c'] w1 fun e w' => e = .returned (.tuple #[.slice none 0 0, .int .i64 4]) ∧ Below w1.heap.size w1 w') := fun A' c' w1 h => by
        have hI := hBI.out
        have hP := partW_ok HW.out hI.ok hI.vlt (by rw [hI.vlen]; exact hvv1) (by rw [hI.vlen]; omega) (by rw [hI.nlen]; omega) (by rw [hI.nlen]; omega)
        rw [hI.vlen, hI.nlen] at hP
        have := Axis_yes A' vv kk c' _ w1 hP h (votes_B hP)
        rw [hI.ax] at this
        exact this.mono fun e w' h => h
      have HPL : Hid (∀ i, i < vv → ∀ A' c' w1, RowsA w1 w1.heap.size A' (upp (partW W nm (vs.eraseIdx i))) → Calls Try.prog 37 #[.slice A' (vv - 1) c'] w1 fun e w' => ∃ X m cx, e = .returned (.tuple #[.slice X m cx, .int .i64 0]) ∧ Below w1.heap.size w1 w') := fun i hi A' c' w1 h => by
        have hI := hBI.out
        have h2 := hI.v2
        have hle : (vs.eraseIdx i).length = vv - 1 := by rw [List.length_eraseIdx_of_lt (by rw [hI.vlen]; exact hi), hI.vlen]
        have hP := partW_ok HW.out hI.ok (fun x hx => hI.vlt x (List.mem_of_mem_eraseIdx hx)) (vs := vs.eraseIdx i) (by rw [hle]; omega) (by rw [hle]; omega) (by rw [hI.nlen]; omega) (by rw [hI.nlen]; omega)
        rw [hle, hI.nlen] at hP
        have := Axis_yes A' (vv - 1) kk c' _ w1 hP h (votes_B hP)
        refine this.mono fun e w' h => ?_
        cases hx : axN (partW W nm (vs.eraseIdx i)) (vv - 1) kk with
        | none => exact absurd hx (hI.less i hi)
        | some o =>
          rw [hx] at h
          obtain ⟨⟨X, cx, h1, _⟩, h5⟩ := h
          exact ⟨X, kk, cx, h1, h5⟩
      have hvl := hBI.out.vlen
      have hnl := hBI.out.nlen
      have HVL := hide hvl
      have HIX : Hid (∀ w', Below wz.heap.size wz w' → ∀ a : Int, Calls Try.prog 26 #[.slice Y2 kk y2, .int .i64 a] w' fun e w'' => e = .returned (.int .i64 (idx (up nm) a)) ∧ w' = w'') := fun w' h a => index_any Y2 kk y2 wz.heap.size (up nm) a w' (by rw [up_length, hnl]) (by omega) (hN.below h)
      have HVT : Hid (∀ t, t < vv → vs.getD t 0 < q) := fun t ht => hBI.out.vlt _ (getD_mem (by rw [hvl]; exact ht))
      have HV := hide hV
      have HBZ := hide hb
      have hbz := hb.size
      have HAL := hide (rowsK_all W nm vs)
      have HLS := hide (rowsK_less W nm vs)
      rw [hvl] at HAL HLS
      clear hV hN hb hvl hnl hc0' hBI
      go_wp2_with fail
      go_loopw [18] (fun i wr => ∃ kz : Int, -1 ≤ kz ∧ kz ≤ (vv : Int) ∧ i = .int .i64 kz ∧ Below wz.heap.size wz wr) (fun i _ => ((vv : Int) - intOf i).toNat)
      case atStart => exact ⟨-1, by omega, by omega, rfl, Below.refl _ _⟩
      case round =>
        obtain ⟨kz, hk0, hkv, rfl, hbel⟩ := hrel
        have HW1 := hide hbel
        clear hbel
        by_cases hlt : kz < (vv : Int)
        · go_wp2_with fail
          obtain ⟨wp, rfl⟩ : ∃ wp : World, wp = wr := ⟨_, rfl⟩
          go_loopw [19, 193] (fun v i wr => ∃ (t np c' : Nat) (X : Option Addr) (us : List Value), t ≤ vv ∧ i = .int .i64 t ∧ v = .slice X np c' ∧ np ≤ c' ∧ np ≤ t ∧ Hid ((rowsK W nm vs kz t).length = np) ∧ Hid (wr.ownsRow wp.heap.size 23 1 (.slice X np c') np us) ∧ Hid (RowVals wr (Value.slice X np c').ownBlock us (upp (rowsK W nm vs kz t))) ∧ Below wp.heap.size wp wr) (fun _ i _ => vv + 1 - (intOf i).toNat)
          case atStart => exact ⟨0, 0, 0, none, [], Nat.zero_le _, rfl, rfl, Nat.le_refl _, Nat.le_refl _, hide (by rw [rowsK_zero]; rfl), hide (World.ownsRow_nil _ _ _ _), hide (by rw [rowsK_zero]; exact RowVals.nil_), Below.refl _ _⟩
          case round =>
            obtain ⟨t, np, c', X, us, ht, rfl, rfl, hnc, hnt, HLN, HOW, HRV, hbel⟩ := hrel
            have hbzr := HW1.out.trans (hbel.mono HW1.out.size)
            by_cases hltt : t < vv
            · have hxq := HVT.out t hltt
              obtain ⟨b1, o1, xv, rfl, hb1, hc1, hxv⟩ := (HV.out.below hbzr).at_ (k := t) (by rw [up_length, HVL.out]; exact hltt)
              have hxv' : xv = ((vs.getD t 0 : Nat) : Int) := by rw [← up_getD]; exact hxv.out.symm
              subst hxv'
              obtain ⟨x, hx⟩ : ∃ x, vs.getD t 0 = x := ⟨_, rfl⟩
              have HX := hide hx
              rw [hx] at hxq hc1
              have hbw := HBZ.out.trans (hbzr.mono hbz)
              obtain ⟨b2, o2, Ax, nx, ax, hA2, hb2, hc2, hx2, hle2, hI2⟩ := (HAr.out wr hbw).at_ (k := x) (by rw [upp_length, HW.out.len]; exact hxq)
              injection hA2 with hA2; injection hA2 with e1 e2
              subst e1; subst e2
              rw [upp_getD] at hI2 hx2
              obtain rfl : n0 = nx := by have := hx2.out; rw [up_length, (HW.out.rows x hxq).len] at this; exact this
              have HIx := hide hI2
              have htl : (t : Int) < (vv : Int) := by omega
              have hxl : (x : Int) < (q : Int) := by omega
              have hx0 : decide ((x : Int) < 0) = false := decide_eq_false (by omega)
              have hx9 : decide ((q : Int) ≤ (x : Int)) = false := decide_eq_false (by omega)
              have HBE := hide hbel
              have HBZR := hide hbzr
              have HOX := hide (HW.out.rows x hxq)
              clear hxv hx hx2 hI2 hbel hbzr
              go_wp2_with fail
              clear hc1 hc2 hx0 hx9
              obtain ⟨wq, rfl⟩ : ∃ wq : World, wq = wr := ⟨_, rfl⟩
              go_loopw [22, 211] (fun v i wr => ∃ (s nb c1 : Nat) (H : Option Addr), s ≤ n0 ∧ i = .int .i64 s ∧ v = .slice H nb c1 ∧ nb ≤ c1 ∧ nb ≤ s ∧ Hid ((balTo nm (W.getD x []) s).length = nb) ∧ Hid (wr.ownsRow wq.heap.size 3 1 (.slice H nb c1) nb ((up (balTo nm (W.getD x []) s)).map (Value.int .i64))) ∧ Below wq.heap.size wq wr) (fun _ i _ => n0 + 1 - (intOf i).toNat)
              case atStart => exact ⟨0, 0, 0, none, Nat.zero_le _, rfl, rfl, Nat.le_refl _, Nat.le_refl _, hide (by rw [balTo_zero]; rfl), hide (World.ownsRow_nil _ _ _ _), Below.refl _ _⟩
              case round =>
                obtain ⟨s, nb, c1, H, hs, rfl, rfl, hnb, hns, HLB, HOI, hbel2⟩ := hrel
                have HB2 := hide hbel2
                by_cases hlts : s < n0
                · obtain ⟨b3, o3, av, rfl, hb3, hc3, hav⟩ := (HIx.out.below (hbel2.mono hbw.size)).at_ (k := s) (by rw [up_length, HOX.out.len]; exact hlts)
                  have hav' : av = (((W.getD x []).getD s 0 : Nat) : Int) := by rw [← up_getD]; exact hav.out.symm
                  subst hav'
                  obtain ⟨a, haa⟩ : ∃ a, (W.getD x []).getD s 0 = a := ⟨_, rfl⟩
                  have HAA := hide haa
                  have hlb : s < (W.getD x []).length := by rw [HOX.out.len]; exact hlts
                  have HLBS := hide hlb
                  rw [haa] at hc3
                  have HI3 := hide (HIX.out wr (HBZR.out.trans (hbel2.mono HBZR.out.size)) (a : Int))
                  clear hav haa hlb
                  by_cases ham : a ∈ nm
                  · rw [idx_up_mem ham] at HI3
                    obtain ⟨pz, hpz⟩ : ∃ pz, place nm a = pz := ⟨_, rfl⟩
                    rw [hpz] at HI3
                    have hst : balTo nm (W.getD x []) (s + 1) = balTo nm (W.getD x []) s ++ [pz] := by
                      have := balTo_yes (nm := nm) HLBS.out (by rw [HAA.out]; exact ham)
                      rw [HAA.out, hpz] at this; exact this
                    have HST := hide hst
                    have hp0 : decide ((0 : Int) ≤ (pz : Int)) = true := decide_eq_true (by omega)
                    clear ham hpz hst
                    go_wp2_with (first
                      | (go_at_call 26; refine (HI3.out).mono ?_; rintro e w' ⟨rfl, rfl⟩)
                      | (at_builtin; refine wpList_app1 (w0 := wr) _ _ 23 3 (.int .i64 0) 8 rfl rfl Try.underlying23 info_int rfl wq.heap.size (.slice H nb c1) nb _ (.int .i64 ((pz : Nat) : Int)) rfl rfl rfl ⟨_, rfl⟩ HOI.out rfl (by omega) (by omega) (by have := hbel2.size; omega) ?_; intro g cg w1 hown1 hc1 hc1m hg1 hgl hgrow; have HOW1 := hide hown1; have HG := hide hgrow; clear hown1 hgrow))
                    go_roundw
                    case rel =>
                      refine ⟨s + 1, nb + 1, cg, some ⟨g, 0, none⟩, by omega, by go_num, rfl, hc1, by omega, hide ?_, hide ?_, hbel2.grown HG.out hbel2.size (fun q hq => (own_lt HOI.out q hq).1)⟩
                      · rw [HST.out, List.length_append, HLB.out]; rfl
                      · rw [HST.out]
                        have e9 : (up (balTo nm (W.getD x []) s ++ [pz])).map (Value.int .i64) = (up (balTo nm (W.getD x []) s)).map (Value.int .i64) ++ [Value.int .i64 (pz : Int)] := by simp [up]
                        rw [e9]; exact HOW1.out
                    case measure => simp [intOf] <;> omega
                  · have hneg : idx (up nm) (a : Int) < 0 := by
                      have h9 := idx_nonneg (l := up nm) (x := (a : Int))
                      rw [mem_up] at h9
                      have h8 : ¬ 0 ≤ idx (up nm) (a : Int) := fun h => ham (h9.1 h)
                      omega
                    obtain ⟨pz, hpz⟩ : ∃ pz, idx (up nm) (a : Int) = pz := ⟨_, rfl⟩
                    rw [hpz] at HI3 hneg
                    have hst : balTo nm (W.getD x []) (s + 1) = balTo nm (W.getD x []) s := balTo_no HLBS.out (by rw [HAA.out]; exact ham)
                    have HST := hide hst
                    have hp0 : decide ((0 : Int) ≤ pz) = false := decide_eq_false (by omega)
                    clear ham hpz hst
                    go_wp2_with (go_at_call 26; refine (HI3.out).mono ?_; rintro e w' ⟨rfl, rfl⟩)
                    go_roundw
                    case rel => exact ⟨s + 1, nb, c1, H, by omega, by go_num, rfl, hnb, by omega, hide (by rw [HST.out, HLB.out]), hide (by rw [HST.out]; exact HOI.out), HB2.out⟩
                    case measure => simp [intOf] <;> omega
                · obtain rfl : n0 = s := by omega
                  have hball : balTo nm (W.getD x []) n0 = bal nm (W.getD x []) := balTo_all (by rw [HOX.out.len]; exact Nat.le_refl _)
                  rw [hball] at HLB HOI
                  have HI9 := hide (ints_of_own HOI.out)
                  have HLOW := hide (own_lt HOI.out)
                  have HOW1 := hide (HOW.out.kept (row := none) (w' := wr) ⟨hbel2.os, hbel2.tape, hbel2.output, hbel2.size, fun k hk _ => hbel2.block k hk⟩ (by
                      cases h : (Value.slice X np c').ownBlock
                      · exact .inl rfl
                      · exact .inr (by simp)))
                  have HRV1 := hide (HRV.out.next hbel2)
                  have hbw2 := HBE.out.trans (hbel2.mono HBE.out.size)
                  have HBW2 := hide hbw2
                  clear hball
                  by_cases e : (t : Int) = kz
                  · have eb : ((t : Int) != kz) = false := by simp [e]
                    have hst := rowsK_no (W := W) (nm := nm) (vs := vs) e
                    have HST := hide hst
                    clear e hst
                    go_wp2
                    go_roundw
                    case rel => exact ⟨t + 1, np, c', X, us, by omega, by go_num, rfl, hnc, by omega, hide (by rw [HST.out]; exact HLN.out), HOW1, hide (by rw [HST.out]; exact HRV1.out), HBW2.out⟩
                    case measure => simp [intOf] <;> omega
                  · have eb : ((t : Int) != kz) = true := by simp; omega
                    have hst := rowsK_yes (W := W) (nm := nm) (vs := vs) e
                    rw [HX.out] at hst
                    have HST := hide hst
                    have hbw := hbw2
                    clear e hst
                    go_wp2_with (at_builtin; refine wpList_app1 (w0 := wr) _ _ 22 23 (.slice none 0 0) 24 rfl rfl Try.underlying22 info_ints rfl wp.heap.size (.slice X np c') np us (.slice H nb c1) rfl rfl rfl ⟨_, rfl⟩ HOW1.out rfl (by omega) (by omega) (by have := hbw.size; omega) ?_; intro g cg w3 hown2 hc2 hc2m hg2 hgl hgrow; have HOW2 := hide hown2; have HG := hide hgrow; have HG2 := hide hg2; clear hown2 hgrow hg2)
                    go_roundw
                    case rel =>
                      refine ⟨t + 1, np + 1, cg, some ⟨g, 0, none⟩, _, by omega, by go_num, rfl, hc2, by omega, hide ?_, HOW2, hide ?_, ?_⟩
                      · rw [HST.out, List.length_append, HLN.out]; rfl
                      · rw [HST.out]
                        have e9 : upp (rowsK W nm vs kz t ++ [bal nm (W.getD x [])]) = upp (rowsK W nm vs kz t) ++ [up (bal nm (W.getD x []))] := by simp [upp]
                        rw [e9]
                        refine HRV1.out.snoc HG.out HG2.out (by rw [up_length]; exact HLB.out) hnb HI9.out (fun _ => off_own (n := nb) (c := c1) fun gg hq => ?_)
                        intro e
                        have h1 := (HLOW.out gg hq).1
                        have h2 := (own_lt HOW.out gg e.symm).2
                        omega
                      · exact HBW2.out.grown HG.out HBW2.out.size (fun q hq => (own_lt HOW.out q hq).1)
                    case measure => simp [intOf] <;> omega
            · obtain rfl : vv = t := by omega
              have hrows := rows_of HRV.out HOW.out
              have HBE := hide (hbzr)
              rcases (by omega : kz = -1 ∨ 0 ≤ kz) with rfl | hkz
              · rw [HAL.out] at hrows
                obtain rfl : vv = np := by have := HLN.out; rw [HAL.out, partW, List.length_map, HVL.out] at this; exact this
                have HCA := hide (HPA.out X c' wr hrows)
                clear hrows hbel hbzr
                go_wp2_with (go_at_call 37; refine (HCA.out).mono ?_; rintro e w9 ⟨rfl, hb9⟩; have HB9 := hide hb9; clear hb9)
                go_roundw
                case rel => exact ⟨0, by omega, by omega, by go_num, HBE.out.trans (HB9.out.mono HBE.out.size)⟩
                case measure => simp [intOf] <;> omega
              · obtain ⟨j, rfl⟩ : ∃ j : Nat, kz = (j : Int) := ⟨kz.toNat, by omega⟩
                have hjv : j < vv := by omega
                rw [HLS.out j] at hrows
                obtain rfl : vv - 1 = np := by have := HLN.out; rw [HLS.out j, partW, List.length_map, List.length_eraseIdx_of_lt (by rw [HVL.out]; exact hjv), HVL.out] at this; exact this
                have HCA := hide (HPL.out j hjv X c' wr hrows)
                have hj0 : decide ((j : Int) < 0) = false := decide_eq_false (by omega)
                have hj1 : decide ((0 : Int) ≤ (j : Int)) = true := decide_eq_true (by omega)
                clear hrows hbel hbzr
                go_wp2_with (go_at_call 37; refine (HCA.out).mono ?_; rintro e w9 ⟨X9, m9, x9, rfl, hb9⟩; have HB9 := hide hb9; clear hb9)
                go_roundw
                case rel => exact ⟨(j : Int) + 1, by omega, by omega, by go_num, HBE.out.trans (HB9.out.mono HBE.out.size)⟩
                case measure => simp [intOf] <;> omega
        · obtain rfl : kz = (vv : Int) := by omega
          have hb := HBZ.out.trans (HW1.out.mono hbz)
          go_wp2_with fail
          refine (awake_any _).mono ?_
          rintro e w99 ⟨rfl, hbn⟩
          replace hb := hb.trans (hbn.mono hb.size)
          clear hbn
          go_wp2
          go_ret
          exact ⟨rfl, hb⟩
end Go.Proofs.Ytejijddfepgnkaa
