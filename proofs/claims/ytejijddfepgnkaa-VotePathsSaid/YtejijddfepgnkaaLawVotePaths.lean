/-
  The walk of VotePaths.
-/
import Derived.Test.YtejijddfepgnkaaPath
import Derived.Test.YtejijddfepgnkaaPathNo
import Derived.Test.YtejijddfepgnkaaPathPlain
import Derived.Test.YtejijddfepgnkaaBends
import Derived.Test.YtejijddfepgnkaaVoteBase
import Derived.Test.YtejijddfepgnkaaMarginsApi
import Derived.Test.YtejijddfepgnkaaWidthsApi
import Derived.Test.YtejijddfepgnkaaMatRead
namespace Go.Proofs.Ytejijddfepgnkaa
open Go.RowKit
set_option linter.unusedVariables false
set_option linter.unusedSimpArgs false

set_option maxRecDepth 100000 in
set_option maxHeartbeats 3200000 in
theorem votePaths_any (A : Option Addr) (n c : Nat) (L : List (List Int)) (x y : Int) (w : World) (hn : L.length = n) (hlen : n ≤ 9223372036854775807) (hrow : ∀ l ∈ L, l.length ≤ 9223372036854775807) (hA : RowsA w w.heap.size A L) (hx : -9223372036854775808 ≤ x ∧ x ≤ 9223372036854775807) (hy : -9223372036854775808 ≤ y ∧ y ≤ 9223372036854775807) :
    Calls Try.prog 10 #[.slice A n c, .int .i64 x, .int .i64 y] w fun e w' => e = .returned (.bool true) ∧ Below w.heap.size w w' := by
  obtain ⟨q, hq⟩ : ∃ q, (fewV L).length = q := ⟨_, rfl⟩
  have HFE := hide (vew_in (c := c) hn hlen hrow hq hA)
  cases hv : votesB L
  · have HMN : Hid (∀ A' c' w1, RowsA w1 w1.heap.size A' (fewV L) → Calls Try.prog 33 #[.slice A' q c'] w1 fun e w' => e = .returned (.tuple #[.slice none 0 0, .int .i64 2]) ∧ Below w1.heap.size w1 w') := fun A' c' w1 h => Margins_no A' q c' (fewV L) w1 hq (by rw [← hq]; exact vew_len L) (vew_rows L) h (by rw [vew_valid]; exact hv)
    have HWN : Hid (∀ A' c' w1, RowsA w1 w1.heap.size A' (fewV L) → Calls Try.prog 38 #[.slice A' q c'] w1 fun e w' => e = .returned (.tuple #[.slice none 0 0, .int .i64 2]) ∧ Below w1.heap.size w1 w') := fun A' c' w1 h => Widths_no A' q c' (fewV L) w1 hq (by rw [← hq]; exact vew_len L) (vew_rows L) h (by rw [vew_valid]; exact hv)
    have HPN : Hid (∀ A' c' w1, RowsA w1 w1.heap.size A' (fewV L) → Calls Try.prog 40 #[.slice A' q c', .int .i64 x, .int .i64 y] w1 fun e w' => e = .returned (.tuple #[.slice none 0 0, .int .i64 2]) ∧ Below w1.heap.size w1 w') := fun A' c' w1 h => Path_no A' q c' x y (fewV L) w1 hq (by rw [← hq]; exact vew_len L) (vew_rows L) h (by rw [vew_valid]; exact hv)
    clear hv hrow hn hA hq
    go_enter Try.func10, Try.ntmps10
    have hb := Below.refl w.heap.size w
    go_wp2_with fail
    refine (HFE.out _ hb).mono ?_
    rintro e w1 ⟨A1, c1, rfl, hq1, hR1, hbn⟩
    replace hb := hb.trans (hbn.mono hb.size)
    clear hbn
    go_wp2_with fail
    refine (HMN.out _ _ _ hR1).mono ?_
    rintro e w2 ⟨rfl, hbn⟩
    replace hR1 := hR1.next hbn
    replace hb := hb.trans (hbn.mono hb.size)
    clear hbn
    clear hR1
    go_wp2_with fail
    refine (HFE.out _ hb).mono ?_
    rintro e w3 ⟨A3, c3, rfl, hq3, hR3, hbn⟩
    replace hb := hb.trans (hbn.mono hb.size)
    clear hbn
    go_wp2_with fail
    refine (HWN.out _ _ _ hR3).mono ?_
    rintro e w4 ⟨rfl, hbn⟩
    replace hR3 := hR3.next hbn
    replace hb := hb.trans (hbn.mono hb.size)
    clear hbn
    clear hR3
    go_wp2_with fail
    refine (HFE.out _ hb).mono ?_
    rintro e w5 ⟨A5, c5, rfl, hq5, hR5, hbn⟩
    replace hb := hb.trans (hbn.mono hb.size)
    clear hbn
    go_wp2_with fail
    refine (HPN.out _ _ _ hR5).mono ?_
    rintro e w6 ⟨rfl, hbn⟩
    replace hR5 := hR5.next hbn
    replace hb := hb.trans (hbn.mono hb.size)
    clear hbn
    clear hR5
    go_wp2_with fail
    refine (awake_any _).mono ?_
    rintro e w7 ⟨rfl, hbn⟩
    replace hb := hb.trans (hbn.mono hb.size)
    clear hbn
    go_wp2
    go_ret
    exact ⟨rfl, hb⟩
  · have hqn : q = n := by rw [← hq, vew_same hv, hn]
    subst hqn
    rw [vew_same hv] at HFE
    obtain ⟨k, W, hW, -⟩ := votes_of hv hn
    have hk5 := hW.ok.nle
    have hv9 := hW.ok.le
    have HMY : Hid (∀ A' c' w1, RowsA w1 w1.heap.size A' L → Calls Try.prog 33 #[.slice A' q c'] w1 fun e w' => ∃ X c', e = .returned (.tuple #[.slice X k c', .int .i64 0]) ∧ k ≤ c' ∧ RowsA w' w'.heap.size X (rowsZ (margM W) k) ∧ Below w1.heap.size w1 w') := fun A' c' w1 h => Margins_yes A' q k c' W w1 hW.ok (by rw [hW.eq]; exact h) hW.valid
    have HWY : Hid (∀ A' c' w1, RowsA w1 w1.heap.size A' L → Calls Try.prog 38 #[.slice A' q c'] w1 fun e w' => ∃ X c', e = .returned (.tuple #[.slice X k c', .int .i64 0]) ∧ k ≤ c' ∧ RowsA w' w'.heap.size X (rowsZ (widM k (margM W)) k) ∧ Below w1.heap.size w1 w') := fun A' c' w1 h => Widths_yes A' q k c' W w1 hW.ok (by rw [hW.eq]; exact h) hW.valid
    by_cases hgood : 0 ≤ x ∧ x < (k : Int) ∧ 0 ≤ y ∧ y < (k : Int) ∧ x ≠ y
    · obtain ⟨g1, g2, g3, g4, g5⟩ := hgood
      obtain ⟨a, rfl⟩ : ∃ a : Nat, x = a := ⟨x.toNat, by omega⟩
      obtain ⟨b, rfl⟩ : ∃ b : Nat, y = b := ⟨y.toNat, by omega⟩
      have hak : a < k := by omega
      have hbk : b < k := by omega
      have hab : a ≠ b := by omega
      obtain ⟨Lp, pth, hL2, hLk, hL, hno, hok⟩ := path_ex (M := margM W) hak hbk hab
      have hPY0 := fun A' c' w1 (h : RowsA w1 w1.heap.size A' L) => Path_yes A' q k c' a b Lp pth W w1 hW.ok (by rw [hW.eq]; exact h) hW.valid hak hbk hab hL2 (by omega) hL hno
      rw [hok.len] at hPY0
      have HPY : Hid (∀ A' c' w1, RowsA w1 w1.heap.size A' L → Calls Try.prog 40 #[.slice A' q c', .int .i64 (a : Nat), .int .i64 (b : Nat)] w1 fun e w' => ∃ X cx, e = .returned (.tuple #[.slice (some X) Lp cx, .int .i64 0]) ∧ Lp ≤ cx ∧ IntsA w' w'.heap.size (some X) (up pth) ∧ Below w1.heap.size w1 w') := hPY0
      have HRM : Hid (∀ w1 B X, RowsA w1 B X (rowsZ (margM W) k) → ∀ a b, a < k → b < k → ∃ bx ox ba oa ca, X = some ⟨bx, ox, none⟩ ∧ bx < B ∧ w1.cell? ⟨bx, ox + a, none⟩ = some (.slice (some ⟨ba, oa, none⟩) k ca) ∧ ba < B ∧ w1.cell? ⟨ba, oa + b, none⟩ = some (.int .i64 (margM W a b))) := fun w1 B X h a b ha hb => mat_read h ha hb
      have HRW : Hid (∀ w1 B X, RowsA w1 B X (rowsZ (widM k (margM W)) k) → ∀ a b, a < k → b < k → ∃ bx ox ba oa ca, X = some ⟨bx, ox, none⟩ ∧ bx < B ∧ w1.cell? ⟨bx, ox + a, none⟩ = some (.slice (some ⟨ba, oa, none⟩) k ca) ∧ ba < B ∧ w1.cell? ⟨ba, oa + b, none⟩ = some (.int .i64 (widM k (margM W) a b))) := fun w1 B X h a b ha hb => mat_read h ha hb
      have hge : margM W a b ≤ widM k (margM W) a b := widM_ge (margM W) a b
      have h99 : widM k (margM W) a b ≤ 99 := by
        rw [widM_eq hW.ok hak hbk hab]
        exact (wTo_bd (by rw [hW.ok.len]; exact hv9) k a b (k - 1)).2
      have HMIN : Hid (minTo (margM W) pth (Lp - 1) = widM k (margM W) a b) := minTo_eq hab hL2 hok h99
      have HBD : Hid (∀ x y, x < k → y < k → -99 ≤ margM W x y ∧ margM W x y ≤ 99) := fun x y hx hy => by
        rw [margM_eq hW.ok hx hy]
        have := marg_bd x y W
        rw [hW.ok.len] at this
        omega
      have HOK := hide hok
      generalize widM k (margM W) = WM at *
      generalize margM W = M at *
      clear hv hrow hn hA hq hW hPY0 hL hno hok
      go_enter Try.func10, Try.ntmps10
      have hb := Below.refl w.heap.size w
      go_wp2_with fail
      refine (HFE.out _ hb).mono ?_
      rintro e w1 ⟨A1, c1, rfl, hq1, hR1, hbn⟩
      replace hb := hb.trans (hbn.mono hb.size)
      clear hbn
      go_wp2_with fail
      refine (HMY.out _ _ _ hR1).mono ?_
      rintro e w2 ⟨X2, d2, rfl, hd2, hRM, hbn⟩
      replace hR1 := hR1.next hbn
      replace hb := hb.trans (hbn.mono hb.size)
      clear hbn
      clear hR1
      go_wp2_with fail
      refine (HFE.out _ hb).mono ?_
      rintro e w3 ⟨A3, c3, rfl, hq3, hR3, hbn⟩
      replace hRM := hRM.next hbn
      replace hb := hb.trans (hbn.mono hb.size)
      clear hbn
      go_wp2_with fail
      refine (HWY.out _ _ _ hR3).mono ?_
      rintro e w4 ⟨X4, d4, rfl, hd4, hRW, hbn⟩
      replace hRM := hRM.next hbn
      replace hR3 := hR3.next hbn
      replace hb := hb.trans (hbn.mono hb.size)
      clear hbn
      clear hR3
      go_wp2_with fail
      refine (HFE.out _ hb).mono ?_
      rintro e w5 ⟨A5, c5, rfl, hq5, hR5, hbn⟩
      replace hRM := hRM.next hbn
      replace hRW := hRW.next hbn
      replace hb := hb.trans (hbn.mono hb.size)
      clear hbn
      go_wp2_with fail
      refine (HPY.out _ _ _ hR5).mono ?_
      rintro e w6 ⟨X6, d6, rfl, hd6, hIP, hbn⟩
      replace hRM := hRM.next hbn
      replace hRW := hRW.next hbn
      replace hR5 := hR5.next hbn
      replace hb := hb.trans (hbn.mono hb.size)
      clear hbn
      clear hR5
      obtain ⟨w0, hw0⟩ : ∃ w0 : World, w0 = w6 := ⟨_, rfl⟩
      subst hw0
      have HB := hide hb
      have HRMA := hide hRM
      have HRWA := hide hRW
      have HIP := hide hIP
      obtain ⟨px, po, y0, hX6, hpx, zp0, hy0⟩ := hIP.at_ (k := 0) (by rw [up_length, HOK.out.len]; omega)
      injection hX6 with hX6
      subst hX6
      obtain ⟨px1, po1, y1, hX7, hpx1, zp1, hy1⟩ := hIP.at_ (k := Lp - 1) (by rw [up_length, HOK.out.len]; omega)
      injection hX7 with hX7; injection hX7 with e1 e2
      subst e1; subst e2
      obtain rfl : y0 = (a : Int) := by rw [← hy0.out, up_getD, HOK.out.first]
      obtain rfl : y1 = (b : Int) := by rw [← hy1.out, up_getD, HOK.out.last]
      rw [Nat.add_zero] at zp0
      obtain ⟨bx, ox, xa, oa, ca, rfl, hbx, hc1, hxa, hm1⟩ := HRM.out w0 w0.heap.size X2 hRM a b hak hbk
      obtain ⟨by_, oy, ya, ob, cb, rfl, hby, hc3, hya, hm3⟩ := HRW.out w0 w0.heap.size X4 hRW a b hak hbk
      have l1 : px < w0.heap.size := hpx
      have l2 : bx < w0.heap.size := hbx
      have l3 : xa < w0.heap.size := hxa
      have l4 : by_ < w0.heap.size := hby
      have l5 : ya < w0.heap.size := hya
      obtain ⟨mab, hmab⟩ : ∃ mab, M a b = mab := ⟨_, rfl⟩
      obtain ⟨wab, hwab⟩ : ∃ wab, WM a b = wab := ⟨_, rfl⟩
      rw [hmab] at hm1 hge
      rw [hwab] at hm3 hge
      have HWAB := hide hwab
      have hL1 : (Lp : Int) - 1 = ((Lp - 1 : Nat) : Int) := by omega
      have hL1' : IntKind.i64.wrap ((Lp : Int) - 1) = ((Lp - 1 : Nat) : Int) := by rw [IntKind.wrap_i64]; omega
      have hL2' : IntKind.i64.wrap ((Lp - 1 : Nat) : Int) = ((Lp - 1 : Nat) : Int) := by rw [IntKind.wrap_i64]; omega
      have j0 : ¬ Lp = 0 := by omega
      have j00 : 0 < Lp := by omega
      have k1 : decide ((Lp : Int) < 2) = false := decide_eq_false (by omega)
      have k2 : decide ((k : Int) < (Lp : Int)) = false := decide_eq_false (by omega)
      have k3 : decide ((k : Int) ≤ (a : Int)) = false := decide_eq_false (by omega)
      have k4 : decide ((k : Int) ≤ (b : Int)) = false := decide_eq_false (by omega)
      have k5 : decide (wab < mab) = false := decide_eq_false (by omega)
      have j1 : ((Lp - 1 : Nat) : Int) < (Lp : Int) := by omega
      have j2 : (0 : Int) < (Lp : Int) := by omega
      have j3 : (a : Int) < (k : Int) := by omega
      have j4 : (b : Int) < (k : Int) := by omega
      clear hb hRM hRW hIP hmab hwab hy0 hy1
      go_wp2_with fail
      refine wp_region_below (by kernel_rfl) (by kernel_rfl) ?_
      refine wpQuiet_val' (.slice (some ⟨px, po, none⟩) Lp d6) (by rfl) (fun w' hw' => by go_simp) ?_
      simp only [put_lit, List.set_cons_succ, List.set_cons_zero]
      refine wpQuiet_val' (.int .i64 Lp) (by rfl) (fun w' hw' => by go_simp) ?_
      simp only [put_lit, List.set_cons_succ, List.set_cons_zero]
      refine wpQuiet_val' (.bool false) (by rfl) (fun w' hw' => by go_simp) ?_
      simp only [put_lit, List.set_cons_succ, List.set_cons_zero]
      refine wpQuiet_val' (.bool false) (by rfl) (fun w' hw' => by go_simp) ?_
      simp only [put_lit, List.set_cons_succ, List.set_cons_zero]
      refine wpQuiet_val' (.slice (some ⟨px, po, none⟩) Lp d6) (by rfl) (fun w' hw' => by go_simp) ?_
      simp only [put_lit, List.set_cons_succ, List.set_cons_zero]
      refine wpQuiet_val' (.int .i64 Lp) (by rfl) (fun w' hw' => by go_simp) ?_
      simp only [put_lit, List.set_cons_succ, List.set_cons_zero]
      refine wpQuiet_val' (.int .i64 (k : Nat)) (by rfl) (fun w' hw' => by go_simp) ?_
      simp only [put_lit, List.set_cons_succ, List.set_cons_zero]
      refine wpQuiet_val' (.bool false) (by rfl) (fun w' hw' => by go_simp) ?_
      simp only [put_lit, List.set_cons_succ, List.set_cons_zero]
      refine wpQuiet_val' (.bool false) (by rfl) (fun w' hw' => by go_simp) ?_
      simp only [put_lit, List.set_cons_succ, List.set_cons_zero]
      refine wpQuiet_val' (.bool false) (by rfl) (fun w' hw' => by go_simp) ?_
      simp only [put_lit, List.set_cons_succ, List.set_cons_zero]
      refine wpQuiet_val' (.int .i64 (a : Nat)) (by rfl) (fun w' hw' => by go_simp) ?_
      simp only [put_lit, List.set_cons_succ, List.set_cons_zero]
      refine wpQuiet_val' (.bool false) (by rfl) (fun w' hw' => by go_simp) ?_
      simp only [put_lit, List.set_cons_succ, List.set_cons_zero]
      refine wpQuiet_val' (.bool false) (by rfl) (fun w' hw' => by go_simp) ?_
      simp only [put_lit, List.set_cons_succ, List.set_cons_zero]
      refine wpQuiet_val' (.bool false) (by rfl) (fun w' hw' => by go_simp) ?_
      simp only [put_lit, List.set_cons_succ, List.set_cons_zero]
      refine wpQuiet_val' (.int .i64 (b : Nat)) (by rfl) (fun w' hw' => by go_simp) ?_
      simp only [put_lit, List.set_cons_succ, List.set_cons_zero]
      refine wpQuiet_val' (.bool false) (by rfl) (fun w' hw' => by go_simp) ?_
      simp only [put_lit, List.set_cons_succ, List.set_cons_zero]
      refine wpQuiet_val' (.bool false) (by rfl) (fun w' hw' => by go_simp) ?_
      simp only [put_lit, List.set_cons_succ, List.set_cons_zero]
      refine wpQuiet_val' (.bool false) (by rfl) (fun w' hw' => by go_simp) ?_
      simp only [put_lit, List.set_cons_succ, List.set_cons_zero]
      refine wpQuiet_val' (.int .i64 (a : Nat)) (by rfl) (fun w' hw' => by go_simp) ?_
      simp only [put_lit, List.set_cons_succ, List.set_cons_zero]
      refine wpQuiet_val' (.int .i64 (k : Nat)) (by rfl) (fun w' hw' => by go_simp) ?_
      simp only [put_lit, List.set_cons_succ, List.set_cons_zero]
      refine wpQuiet_val' (.bool false) (by rfl) (fun w' hw' => by go_simp) ?_
      simp only [put_lit, List.set_cons_succ, List.set_cons_zero]
      refine wpQuiet_val' (.bool false) (by rfl) (fun w' hw' => by go_simp) ?_
      simp only [put_lit, List.set_cons_succ, List.set_cons_zero]
      refine wpQuiet_val' (.bool false) (by rfl) (fun w' hw' => by go_simp) ?_
      simp only [put_lit, List.set_cons_succ, List.set_cons_zero]
      refine wpQuiet_val' (.int .i64 (b : Nat)) (by rfl) (fun w' hw' => by go_simp) ?_
      simp only [put_lit, List.set_cons_succ, List.set_cons_zero]
      refine wpQuiet_val' (.int .i64 (k : Nat)) (by rfl) (fun w' hw' => by go_simp) ?_
      simp only [put_lit, List.set_cons_succ, List.set_cons_zero]
      refine wpQuiet_val' (.bool false) (by rfl) (fun w' hw' => by go_simp) ?_
      simp only [put_lit, List.set_cons_succ, List.set_cons_zero]
      refine wpQuiet_val' (.bool false) (by rfl) (fun w' hw' => by go_simp) ?_
      simp only [put_lit, List.set_cons_succ, List.set_cons_zero]
      refine wpQuiet_val' (.bool false) (by rfl) (fun w' hw' => by go_simp) ?_
      simp only [put_lit, List.set_cons_succ, List.set_cons_zero]
      refine wpQuiet_val' (.slice (some ⟨px, po, none⟩) Lp d6) (by rfl) (fun w' hw' => by go_simp) ?_
      simp only [put_lit, List.set_cons_succ, List.set_cons_zero]
      refine wpQuiet_val' (.pointer (some ⟨px, po, none⟩)) (by rfl) (fun w' hw' => by go_simp) ?_
      simp only [put_lit, List.set_cons_succ, List.set_cons_zero]
      refine wpQuiet_val' (.int .i64 (a : Nat)) (by rfl) (fun w' hw' => by have e0 := (hw'.cell (p := ⟨px, po, none⟩) l1).trans zp0; go_simp) ?_
      simp only [put_lit, List.set_cons_succ, List.set_cons_zero]
      refine wpQuiet_val' (.int .i64 (a : Nat)) (by rfl) (fun w' hw' => by go_simp) ?_
      simp only [put_lit, List.set_cons_succ, List.set_cons_zero]
      refine wpQuiet_val' (.bool false) (by rfl) (fun w' hw' => by go_simp) ?_
      simp only [put_lit, List.set_cons_succ, List.set_cons_zero]
      refine wpQuiet_val' (.bool false) (by rfl) (fun w' hw' => by go_simp) ?_
      simp only [put_lit, List.set_cons_succ, List.set_cons_zero]
      refine wpQuiet_val' (.bool false) (by rfl) (fun w' hw' => by go_simp) ?_
      simp only [put_lit, List.set_cons_succ, List.set_cons_zero]
      refine wpQuiet_val' (.slice (some ⟨px, po, none⟩) Lp d6) (by rfl) (fun w' hw' => by go_simp) ?_
      simp only [put_lit, List.set_cons_succ, List.set_cons_zero]
      refine wpQuiet_val' (.slice (some ⟨px, po, none⟩) Lp d6) (by rfl) (fun w' hw' => by go_simp) ?_
      simp only [put_lit, List.set_cons_succ, List.set_cons_zero]
      refine wpQuiet_val' (.int .i64 Lp) (by rfl) (fun w' hw' => by go_simp) ?_
      simp only [put_lit, List.set_cons_succ, List.set_cons_zero]
      refine wpQuiet_val' (.int .i64 (Lp - 1 : Nat)) (by rfl) (fun w' hw' => by go_simp) ?_
      simp only [put_lit, List.set_cons_succ, List.set_cons_zero]
      refine wpQuiet_val' (.pointer (some ⟨px, po + (Lp - 1), none⟩)) (by rfl) (fun w' hw' => by go_simp) ?_
      simp only [put_lit, List.set_cons_succ, List.set_cons_zero]
      refine wpQuiet_val' (.int .i64 (b : Nat)) (by rfl) (fun w' hw' => by have e0 := (hw'.cell (p := ⟨px, po + (Lp - 1), none⟩) l1).trans zp1; go_simp) ?_
      simp only [put_lit, List.set_cons_succ, List.set_cons_zero]
      refine wpQuiet_val' (.int .i64 (b : Nat)) (by rfl) (fun w' hw' => by go_simp) ?_
      simp only [put_lit, List.set_cons_succ, List.set_cons_zero]
      refine wpQuiet_val' (.bool false) (by rfl) (fun w' hw' => by go_simp) ?_
      simp only [put_lit, List.set_cons_succ, List.set_cons_zero]
      refine wpQuiet_val' (.bool false) (by rfl) (fun w' hw' => by go_simp) ?_
      simp only [put_lit, List.set_cons_succ, List.set_cons_zero]
      refine wpQuiet_val' (.bool false) (by rfl) (fun w' hw' => by go_simp) ?_
      simp only [put_lit, List.set_cons_succ, List.set_cons_zero]
      refine wpQuiet_val' (.slice (some ⟨bx, ox, none⟩) k d2) (by rfl) (fun w' hw' => by go_simp) ?_
      simp only [put_lit, List.set_cons_succ, List.set_cons_zero]
      refine wpQuiet_val' (.int .i64 (a : Nat)) (by rfl) (fun w' hw' => by go_simp) ?_
      simp only [put_lit, List.set_cons_succ, List.set_cons_zero]
      refine wpQuiet_val' (.pointer (some ⟨bx, ox + a, none⟩)) (by rfl) (fun w' hw' => by go_simp) ?_
      simp only [put_lit, List.set_cons_succ, List.set_cons_zero]
      refine wpQuiet_val' (.slice (some ⟨xa, oa, none⟩) k ca) (by rfl) (fun w' hw' => by have e0 := (hw'.cell (p := ⟨bx, ox + a, none⟩) l2).trans hc1; go_simp) ?_
      simp only [put_lit, List.set_cons_succ, List.set_cons_zero]
      refine wpQuiet_val' (.int .i64 (b : Nat)) (by rfl) (fun w' hw' => by go_simp) ?_
      simp only [put_lit, List.set_cons_succ, List.set_cons_zero]
      refine wpQuiet_val' (.pointer (some ⟨xa, oa + b, none⟩)) (by rfl) (fun w' hw' => by go_simp) ?_
      simp only [put_lit, List.set_cons_succ, List.set_cons_zero]
      refine wpQuiet_val' (.int .i64 mab) (by rfl) (fun w' hw' => by have e0 := (hw'.cell (p := ⟨xa, oa + b, none⟩) l3).trans hm1; go_simp) ?_
      simp only [put_lit, List.set_cons_succ, List.set_cons_zero]
      refine wpQuiet_val' (.slice (some ⟨by_, oy, none⟩) k d4) (by rfl) (fun w' hw' => by go_simp) ?_
      simp only [put_lit, List.set_cons_succ, List.set_cons_zero]
      refine wpQuiet_val' (.int .i64 (a : Nat)) (by rfl) (fun w' hw' => by go_simp) ?_
      simp only [put_lit, List.set_cons_succ, List.set_cons_zero]
      refine wpQuiet_val' (.pointer (some ⟨by_, oy + a, none⟩)) (by rfl) (fun w' hw' => by go_simp) ?_
      simp only [put_lit, List.set_cons_succ, List.set_cons_zero]
      refine wpQuiet_val' (.slice (some ⟨ya, ob, none⟩) k cb) (by rfl) (fun w' hw' => by have e0 := (hw'.cell (p := ⟨by_, oy + a, none⟩) l4).trans hc3; go_simp) ?_
      simp only [put_lit, List.set_cons_succ, List.set_cons_zero]
      refine wpQuiet_val' (.int .i64 (b : Nat)) (by rfl) (fun w' hw' => by go_simp) ?_
      simp only [put_lit, List.set_cons_succ, List.set_cons_zero]
      refine wpQuiet_val' (.pointer (some ⟨ya, ob + b, none⟩)) (by rfl) (fun w' hw' => by go_simp) ?_
      simp only [put_lit, List.set_cons_succ, List.set_cons_zero]
      refine wpQuiet_val' (.int .i64 wab) (by rfl) (fun w' hw' => by have e0 := (hw'.cell (p := ⟨ya, ob + b, none⟩) l5).trans hm3; go_simp) ?_
      simp only [put_lit, List.set_cons_succ, List.set_cons_zero]
      refine wpQuiet_val' (.bool false) (by rfl) (fun w' hw' => by go_simp) ?_
      simp only [put_lit, List.set_cons_succ, List.set_cons_zero]
      refine wpQuiet_val' (.bool false) (by rfl) (fun w' hw' => by go_simp) ?_
      simp only [put_lit, List.set_cons_succ, List.set_cons_zero]
      refine wpQuiet_nil ?_
      intro wz hbz
      have HBZ := hide hbz
      have hszz := hbz.size
      clear zp0 zp1 hc1 hm1 hm3 hc3 k1 k2 k3 k4 k5 hge
      go_wp2_with fail
      go_loopw [14, 117] (fun ls i wr => ∃ j : Nat, j ≤ Lp ∧ i = .int .i64 j ∧ ls = .int .i64 (minTo M pth (j - 1)) ∧ Below w0.heap.size w0 wr) (fun _ i _ => Lp - (intOf i).toNat)
      case atStart => exact ⟨0, Nat.zero_le _, rfl, rfl, HBZ.out⟩
      case round =>
        obtain ⟨j, hjL, rfl, rfl, hbel⟩ := hrel
        have HBE := hide hbel
        have hszr := hbel.size
        by_cases hlt : j < Lp
        · have hIr := HIP.out.below hbel
          obtain ⟨px2, po2, yj, hX8, hpx2, zj, hyj⟩ := hIr.at_ (k := j) (by rw [up_length, HOK.out.len]; exact hlt)
          injection hX8 with hX8; injection hX8 with e1 e2
          subst e1; subst e2
          obtain ⟨yn, hyn⟩ : ∃ yn, pth.getD j 0 = yn := ⟨_, rfl⟩
          obtain rfl : yj = (yn : Int) := by rw [← hyj.out, up_getD, hyn]
          have hynk : yn < k := by rw [← hyn]; exact HOK.out.lt _ (getD_mem (by rw [HOK.out.len]; exact hlt))
          have hnc : decide ((yn : Int) ∈ up (pth.take j)) = false := by
            rw [decide_eq_false_iff_not, mem_up]
            intro hm
            obtain ⟨i, hi, he⟩ := List.getElem_of_mem hm
            rw [List.length_take, HOK.out.len] at hi
            have h1 := List.pairwise_iff_getElem.1 HOK.out.nd i j (by rw [HOK.out.len]; omega) (by rw [HOK.out.len]; exact hlt) (by omega)
            rw [List.getElem_take] at he
            apply h1
            rw [he, ← hyn, List.getD_eq_getElem?_getD, List.getElem?_eq_getElem (by rw [HOK.out.len]; exact hlt)]; rfl
          have hIt : IntsA wr w0.heap.size (some ⟨px, po, none⟩) (up (pth.take j)) := by
            have := hIr.take j
            simpa [up, List.map_take] using this
          have HCT := hide (contains_any (some ⟨px, po, none⟩) j d6 w0.heap.size (up (pth.take j)) (yn : Int) wr (by rw [up_length, List.length_take, HOK.out.len]; omega) (by omega) hIt)
          rw [hnc] at HCT
          have hsl := fun w' => slice_head (some ⟨px, po, none⟩) Lp d6 j (by omega) hd6 w'
          have k6 : decide ((k : Int) ≤ (yn : Int)) = false := decide_eq_false (by omega)
          by_cases hj0 : j = 0
          · subst hj0
            have hsl0 : ∀ w', (Instr.slice 23 (.slice (some ⟨px, po, none⟩) Lp d6) none (some (.int .i64 0)) none).run Try.prog w' = .ok (.slice (some ⟨px, po, none⟩) 0 d6) w' := hsl
            rw [Nat.add_zero] at zj
            clear hbel hIr hyj hnc hIt hyn
            go_wp2_with (go_at_call 41; refine (HCT.out).mono ?_; rintro e w' ⟨rfl, rfl⟩)
            go_roundw
            case rel => exact ⟨1, by omega, rfl, rfl, HBE.out⟩
            case measure => simp [intOf]; omega
          · obtain ⟨px3, po3, yp, hX9, hpx3, zp, hyp⟩ := hIr.at_ (k := j - 1) (by rw [up_length, HOK.out.len]; omega)
            injection hX9 with hX9; injection hX9 with e1 e2
            subst e1; subst e2
            obtain ⟨yq, hyq⟩ : ∃ yq, pth.getD (j - 1) 0 = yq := ⟨_, rfl⟩
            obtain rfl : yp = (yq : Int) := by rw [← hyp.out, up_getD, hyq]
            have hyqk : yq < k := by rw [← hyq]; exact HOK.out.lt _ (getD_mem (by rw [HOK.out.len]; omega))
            obtain ⟨bx2, ox2, xq, oq, cq, hXq, hbx2, hcq, hxq, hmq⟩ := HRM.out wr w0.heap.size _ (HRMA.out.below hbel) yq yn hyqk hynk
            injection hXq with hXq; injection hXq with e1 e2
            subst e1; subst e2
            have HMT : Hid (minTo M pth j = min (minTo M pth (j - 1)) (M yq yn)) := by
              show _ = _
              obtain ⟨i, rfl⟩ : ∃ i, j = i + 1 := ⟨j - 1, by omega⟩
              rw [minTo, Nat.add_sub_cancel, show pth.getD i 0 = yq from hyq, hyn]
            obtain ⟨mm, hmm⟩ : ∃ mm, M yq yn = mm := ⟨_, rfl⟩
            obtain ⟨ml, hml⟩ : ∃ ml, minTo M pth (j - 1) = ml := ⟨_, rfl⟩
            rw [hmm] at hmq HMT
            rw [hml] at HMT ⊢
            have hj1 : (j : Int) - 1 = ((j - 1 : Nat) : Int) := by omega
            have j5 : ((j - 1 : Nat) : Int) < (Lp : Int) := by omega
            have j6 : (yq : Int) < (k : Int) := by omega
            have j7 : (yn : Int) < (k : Int) := by omega
            have k7 : decide ((0 : Int) < (j : Int)) = true := decide_eq_true (by omega)
            have k8 : decide (0 < j) = true := decide_eq_true (by omega)
            clear hbel hIr hyj hnc hIt hyn hyp hyq hmm hml
            go_wp2_with (go_at_call 41; refine (HCT.out).mono ?_; rintro e w' ⟨rfl, rfl⟩)
            go_roundw
            case rel => exact ⟨j + 1, by omega, by go_num, by rw [Nat.add_sub_cancel, HMT.out]; first | rfl | (split <;> (congr 1; omega)), HBE.out⟩
            case measure => simp [intOf]; omega
        · obtain rfl : Lp = j := by omega
          rw [HMIN.out, HWAB.out]
          obtain ⟨by2, oy2, ya2, ob2, cb2, hXw, hby2, hcw, hyw, hmw⟩ := HRW.out wr w0.heap.size _ (HRWA.out.below hbel) a b hak hbk
          injection hXw with hXw; injection hXw with e1 e2
          subst e1; subst e2
          rw [HWAB.out] at hmw
          clear hbel
          go_wp2_with (go_at_call 23; refine (awake_any _).mono ?_; rintro e w9 ⟨rfl, hb9⟩; have HB9 := hide hb9; clear hb9)
          go_ret
          exact ⟨rfl, (HB.out.trans (HBE.out.mono HB.out.size)).trans (HB9.out.mono (by have := HB.out.size; omega))⟩
    · have HPB : Hid (∀ A' c' w1, RowsA w1 w1.heap.size A' L → Calls Try.prog 40 #[.slice A' q c', .int .i64 x, .int .i64 y] w1 fun e w' => e = .returned (.tuple #[.slice none 0 0, .int .i64 2]) ∧ Below w1.heap.size w1 w') := fun A' c' w1 h => Path_bad A' q k c' x y W w1 hW.ok (by rw [hW.eq]; exact h) hW.valid hgood
      generalize widM k (margM W) = WM at *
      generalize margM W = M at *
      clear hv hrow hn hA hq hW hgood
      go_enter Try.func10, Try.ntmps10
      have hb := Below.refl w.heap.size w
      go_wp2_with fail
      refine (HFE.out _ hb).mono ?_
      rintro e w1 ⟨A1, c1, rfl, hq1, hR1, hbn⟩
      replace hb := hb.trans (hbn.mono hb.size)
      clear hbn
      go_wp2_with fail
      refine (HMY.out _ _ _ hR1).mono ?_
      rintro e w2 ⟨X2, d2, rfl, hd2, hRM, hbn⟩
      replace hR1 := hR1.next hbn
      replace hb := hb.trans (hbn.mono hb.size)
      clear hbn
      clear hR1
      go_wp2_with fail
      refine (HFE.out _ hb).mono ?_
      rintro e w3 ⟨A3, c3, rfl, hq3, hR3, hbn⟩
      replace hRM := hRM.next hbn
      replace hb := hb.trans (hbn.mono hb.size)
      clear hbn
      go_wp2_with fail
      refine (HWY.out _ _ _ hR3).mono ?_
      rintro e w4 ⟨X4, d4, rfl, hd4, hRW, hbn⟩
      replace hRM := hRM.next hbn
      replace hR3 := hR3.next hbn
      replace hb := hb.trans (hbn.mono hb.size)
      clear hbn
      clear hR3
      go_wp2_with fail
      refine (HFE.out _ hb).mono ?_
      rintro e w5 ⟨A5, c5, rfl, hq5, hR5, hbn⟩
      replace hRM := hRM.next hbn
      replace hRW := hRW.next hbn
      replace hb := hb.trans (hbn.mono hb.size)
      clear hbn
      go_wp2_with fail
      refine (HPB.out _ _ _ hR5).mono ?_
      rintro e w6 ⟨rfl, hbn⟩
      replace hRM := hRM.next hbn
      replace hRW := hRW.next hbn
      replace hR5 := hR5.next hbn
      replace hb := hb.trans (hbn.mono hb.size)
      clear hbn
      clear hR5
      go_wp2_with fail
      refine (awake_any _).mono ?_
      rintro e w7 ⟨rfl, hbn⟩
      replace hRM := hRM.next hbn
      replace hRW := hRW.next hbn
      replace hb := hb.trans (hbn.mono hb.size)
      clear hbn
      go_wp2
      go_ret
      exact ⟨rfl, hb⟩
end Go.Proofs.Ytejijddfepgnkaa
