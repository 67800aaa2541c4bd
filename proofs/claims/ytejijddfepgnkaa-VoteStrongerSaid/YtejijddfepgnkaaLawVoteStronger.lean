/-
  The walk of VoteStronger.
-/
import Derived.Test.YtejijddfepgnkaaStrPlain
import Derived.Test.YtejijddfepgnkaaVoteBase
import Derived.Test.YtejijddfepgnkaaMarginsApi
import Derived.Test.YtejijddfepgnkaaWidthsApi
import Derived.Test.YtejijddfepgnkaaMatRead
namespace Go.Proofs.Ytejijddfepgnkaa
open Go.RowKit
set_option linter.unusedVariables false
set_option linter.unusedSimpArgs false


/-- The first one at least as strong as all others, of the first a. -/
def firstTo (D : Mat) (n a : Nat) : Int := fidx a fun x => strongB D n x
theorem firstTo_yes {D : Mat} {n a : Nat} (h : firstTo D n a < 0) (hs : strongB D n a = true) : firstTo D n (a + 1) = (a : Nat) :=
  fidx_found (by omega) hs fun j hj => by
    cases hx : strongB D n j with
    | false => rfl
    | true =>
      have : 0 ≤ firstTo D n a := fidx_nonneg.2 ⟨j, hj, hx⟩
      omega
theorem firstTo_no {D : Mat} {n a : Nat} (h : ¬ (strongB D n a = true ∧ firstTo D n a < 0)) : firstTo D n (a + 1) = firstTo D n a := by
  unfold firstTo at *
  rcases fidx_cases a (fun x => strongB D n x) with ⟨i, hi, e, hp, hno⟩ | ⟨e, hno⟩
  · rw [e]; exact fidx_found (by omega) hp hno
  · rw [e]
    refine fidx_none fun j hj => ?_
    rcases (by omega : j < a ∨ j = a) with h1 | rfl
    · exact hno j h1
    · cases hx : strongB D n j with
      | false => rfl
      | true => exact absurd ⟨hx, by rw [e]; omega⟩ h
def StrTo (D : Mat) (a b : Nat) : Prop := ∀ c, c < b → ¬ D a c < D c a
set_option maxRecDepth 100000 in
set_option maxHeartbeats 3200000 in
theorem voteStronger_any (A : Option Addr) (n c : Nat) (L : List (List Int)) (w : World) (hn : L.length = n) (hlen : n ≤ 9223372036854775807) (hrow : ∀ l ∈ L, l.length ≤ 9223372036854775807) (hA : RowsA w w.heap.size A L) :
    Calls Try.prog 9 #[.slice A n c] w fun e w' => e = .returned (.bool true) ∧ Below w.heap.size w w' := by
  obtain ⟨q, hq⟩ : ∃ q, (fewV L).length = q := ⟨_, rfl⟩
  have HFE := hide (vew_in (c := c) hn hlen hrow hq hA)
  cases hv : votesB L
  · have HMN : Hid (∀ A' c' w1, RowsA w1 w1.heap.size A' (fewV L) → Calls Try.prog 38 #[.slice A' q c'] w1 fun e w' => e = .returned (.tuple #[.slice none 0 0, .int .i64 2]) ∧ Below w1.heap.size w1 w') := fun A' c' w1 h => Widths_no A' q c' (fewV L) w1 hq (by rw [← hq]; exact vew_len L) (vew_rows L) h (by rw [vew_valid]; exact hv)
    clear hv hrow hn hA hq
    go_enter Try.func9, Try.ntmps9
    have hb := Below.refl w.heap.size w
    go_wp2_with fail
    refine (HFE.out _ hb).mono ?_
    rintro e w1 ⟨A1, c1, rfl, hq1, hR1, hbn⟩
    replace hb := hb.trans (hbn.mono hb.size)
    clear hbn
    go_wp2_with fail
    refine (HMN.out _ _ _ hR1).mono ?_
    rintro e w2 ⟨rfl, hbn⟩
    replace hR1 := hR1.next hbn
    replace hb := hb.trans (hbn.mono hb.size)
    clear hbn
    clear hR1
    go_wp2_with fail
    refine (awake_any _).mono ?_
    rintro e w3 ⟨rfl, hbn⟩
    replace hb := hb.trans (hbn.mono hb.size)
    clear hbn
    go_wp2
    go_ret
    exact ⟨rfl, hb⟩
  · have hqn : q = n := by rw [← hq, vew_same hv, hn]
    subst hqn
    rw [vew_same hv] at HFE
    obtain ⟨k, W, hW, -⟩ := votes_of hv hn
    have hk5 := hW.ok.nle
    have hk1 := hW.ok.npos
    have HWY : Hid (∀ A' c' w1, RowsA w1 w1.heap.size A' L → Calls Try.prog 38 #[.slice A' q c'] w1 fun e w' => ∃ X c', e = .returned (.tuple #[.slice X k c', .int .i64 0]) ∧ k ≤ c' ∧ RowsA w' w'.heap.size X (rowsZ (widM k (margM W)) k) ∧ Below w1.heap.size w1 w') := fun A' c' w1 h => Widths_yes A' q k c' W w1 hW.ok (by rw [hW.eq]; exact h) hW.valid
    have HBY : Hid (∀ A' c' w1, RowsA w1 w1.heap.size A' L → Calls Try.prog 39 #[.slice A' q c'] w1 fun e w' => e = .returned (.tuple #[.int .i64 (bestN (margM W) k : Nat), .int .i64 0]) ∧ Below w1.heap.size w1 w') := fun A' c' w1 h => Best_yes A' q k c' W w1 hW.ok (by rw [hW.eq]; exact h) hW.valid
    have HW2 : Hid (∀ A' c' w1, RowsA w1 w1.heap.size A' L → Calls Try.prog 22 #[.slice A' q c', .int .i64 2] w1 fun e w' => e = .returned (.tuple #[.int .i64 (firstTo (widM k (margM W)) k k), .int .i64 0]) ∧ Below w1.heap.size w1 w') := fun A' c' w1 h => by
      have h9 := WinN_yes A' q k c' 2 W w1 (by omega) hW.ok hW.valid (by rw [hW.eq]; exact h)
      rw [winN, if_neg (by omega), if_neg (by omega), if_pos rfl] at h9
      exact h9
    have HWR : Hid (∀ w1 B X, RowsA w1 B X (rowsZ (widM k (margM W)) k) → ∀ a b, a < k → b < k → ∃ bx ox ba oa ca, X = some ⟨bx, ox, none⟩ ∧ bx < B ∧ w1.cell? ⟨bx, ox + a, none⟩ = some (.slice (some ⟨ba, oa, none⟩) k ca) ∧ ba < B ∧ w1.cell? ⟨ba, oa + b, none⟩ = some (.int .i64 (widM k (margM W) a b))) := fun w1 B X h a b ha hb => mat_read h ha hb
    have HTR : Hid (∀ a b c, a < k → b < k → c < k → widM k (margM W) b a < widM k (margM W) a b → widM k (margM W) c b < widM k (margM W) b c → ¬ widM k (margM W) a c ≤ widM k (margM W) c a) := fun a b c ha hb hc h1 h2 => by
      have := str_trans ha hb hc h1 h2; omega
    have hbs62 : bestN (margM W) k < 2 ^ 62 := Nat.lt_of_lt_of_le (bstN_lt _ _ _) (Nat.pow_le_pow_right (by decide) (by omega))
    have HEND : Hid (∃ f : Nat, f < k ∧ firstTo (widM k (margM W)) k k = (f : Nat) ∧ (bestN (margM W) k).testBit f = true) := by
      obtain ⟨a0, ha0, h0⟩ := some_strong (n := k) (margM W) k hk1 (Nat.le_refl _)
      rcases fidx_cases k (fun x => strongB (widM k (margM W)) k x) with ⟨f, hf, e, hp, -⟩ | ⟨e, hno⟩
      · exact ⟨f, hf, e, strong_best (marg_anti hW.ok) hk1 hf (strongB_iff.1 hp)⟩
      · have := hno a0 ha0
        rw [strongB_iff.2 h0] at this
        cases this
    generalize bestN (margM W) k = bs at *
    generalize widM k (margM W) = D at *
    clear hv hrow hn hA hq hW
    go_enter Try.func9, Try.ntmps9
    have hb := Below.refl w.heap.size w
    go_wp2_with fail
    refine (HFE.out _ hb).mono ?_
    rintro e w1 ⟨A1, c1, rfl, hq1, hR1, hbn⟩
    replace hb := hb.trans (hbn.mono hb.size)
    clear hbn
    go_wp2_with fail
    refine (HWY.out _ _ _ hR1).mono ?_
    rintro e w2 ⟨X2, d2, rfl, hd2, hRW, hbn⟩
    replace hR1 := hR1.next hbn
    replace hb := hb.trans (hbn.mono hb.size)
    clear hbn
    clear hR1
    go_wp2_with fail
    refine (HFE.out _ hb).mono ?_
    rintro e w3 ⟨A3, c3, rfl, hq3, hR1, hbn⟩
    replace hRW := hRW.next hbn
    replace hb := hb.trans (hbn.mono hb.size)
    clear hbn
    go_wp2_with fail
    refine (HW2.out _ _ _ hR1).mono ?_
    rintro e w4 ⟨rfl, hbn⟩
    replace hRW := hRW.next hbn
    replace hR1 := hR1.next hbn
    replace hb := hb.trans (hbn.mono hb.size)
    clear hbn
    clear hR1
    go_wp2_with fail
    refine (HFE.out _ hb).mono ?_
    rintro e w5 ⟨A5, c5, rfl, hq5, hR1, hbn⟩
    replace hRW := hRW.next hbn
    replace hb := hb.trans (hbn.mono hb.size)
    clear hbn
    go_wp2_with fail
    refine (HBY.out _ _ _ hR1).mono ?_
    rintro e w6 ⟨rfl, hbn⟩
    replace hRW := hRW.next hbn
    replace hR1 := hR1.next hbn
    replace hb := hb.trans (hbn.mono hb.size)
    clear hbn
    clear hR1
    obtain ⟨w0, hw0⟩ : ∃ w0 : World, w0 = w6 := ⟨_, rfl⟩
    subst hw0
    have HRW := hide hRW
    have HB := hide hb
    clear hRW hb
    obtain ⟨fx, hfx⟩ : ∃ fx, firstTo D k k = fx := ⟨_, rfl⟩
    have HFX := hide hfx
    rw [hfx]
    clear hfx
    go_wp2
    go_loopw [8, 40] (fun f i wr => ∃ a : Nat, a ≤ k ∧ i = .int .i64 a ∧ f = .int .i64 (firstTo D k a) ∧ Below w0.heap.size w0 wr) (fun _ i _ => k - (intOf i).toNat)
    case atStart => exact ⟨0, Nat.zero_le _, rfl, rfl, Below.refl _ _⟩
    case round =>
      obtain ⟨a, ha, rfl, rfl, hbel⟩ := hrel
      have HB1 := hide hbel
      by_cases hlt : a < k
      · have HFT : Hid (firstTo D k a = firstTo D k a) := rfl
        clear hbel
        obtain ⟨fa, hfa⟩ : ∃ fa, firstTo D k a = fa := ⟨_, rfl⟩
        have HFA := hide hfa
        rw [hfa]
        clear hfa
        go_wp2
        obtain ⟨wp, rfl⟩ : ∃ wp : World, wp = wr := ⟨_, rfl⟩
        go_loopw [10, 45] (fun p i wr => ∃ (b : Nat) (pl : Bool), b ≤ k ∧ i = .int .i64 b ∧ p = .bool pl ∧ Hid (pl = true ↔ StrTo D a b) ∧ Below w0.heap.size w0 wr) (fun _ i _ => k - (intOf i).toNat)
        case atStart => exact ⟨0, true, Nat.zero_le _, rfl, rfl, ⟨fun _ b' hb' => absurd hb' (by omega), fun _ => rfl⟩, HB1.out⟩
        case round =>
          obtain ⟨b, pl, hbk, rfl, rfl, hpl, hbel⟩ := hrel
          have HPL := hide hpl
          have HB2 := hide hbel
          by_cases hltb : b < k
          · obtain ⟨p2, hp2⟩ : ∃ p2, (pl && decide (D b a ≤ D a b)) = p2 := ⟨_, rfl⟩
            have HP2 : Hid (p2 = true ↔ StrTo D a (b + 1)) := by
              show p2 = true ↔ StrTo D a (b + 1)
              rw [← hp2, Bool.and_eq_true, HPL.out.out, decide_eq_true_eq]
              constructor
              · rintro ⟨h1, h2⟩ c hc
                rcases (by omega : c < b ∨ c = b) with h | rfl
                · exact h1 c h
                · omega
              · intro h
                have := h b (by omega)
                exact ⟨fun c hc => h c (by omega), by omega⟩
            obtain ⟨bx, ox, xa, oa, ca, rfl, hbx, hcx, hxa, hcm⟩ := HWR.out wr w0.heap.size X2 (HRW.out.below hbel) a b hlt hltb
            obtain ⟨bx2, ox2, xb, ob, cb, hX2, hbx2, hcx2, hxb, hcm2⟩ := HWR.out wr w0.heap.size _ (HRW.out.below hbel) b a hltb hlt
            injection hX2 with hX2; injection hX2 with e1 e2
            subst e1; subst e2
            have hxm : ∃ m1 m2, D a b = m1 ∧ D b a = m2 := ⟨_, _, rfl, rfl⟩
            obtain ⟨m1, m2, hm1, hm2⟩ := hxm
            rw [hm1] at hcm hp2
            rw [hm2] at hcm2 hp2
            clear hbel hpl hm1 hm2
            cases pl with
            | false =>
              obtain rfl : p2 = false := by rw [← hp2]; rfl
              clear hp2
              go_wp2
              go_quiet (fail)
              go_wp2
              go_loopw [68] (fun i wr => ∃ c : Nat, c ≤ k ∧ i = .int .i64 c ∧ Below w0.heap.size w0 wr) (fun i _ => k - (intOf i).toNat)
              case atStart => exact ⟨0, Nat.zero_le _, rfl, below_drewN HB2.out _⟩
              case round =>
                obtain ⟨c, hck, rfl, hbel⟩ := hrel
                have HB3 := hide hbel
                by_cases hltc : c < k
                · have htr := HTR.out a b c hlt hltb hltc
                  obtain ⟨bx1, ox1, xa, oa, ca, hX1, hbx1, hcx, hxa, hcm⟩ := HWR.out wr w0.heap.size _ (HRW.out.below hbel) a b hlt hltb
                  injection hX1 with hX1; injection hX1 with e1 e2
                  subst e1; subst e2
                  obtain ⟨bx2, ox2, xb, ob, cb, hX2, hbx2, hcx2, hxb, hcm2⟩ := HWR.out wr w0.heap.size _ (HRW.out.below hbel) b a hltb hlt
                  injection hX2 with hX2; injection hX2 with e1 e2
                  subst e1; subst e2
                  obtain ⟨bx3, ox3, xb3, ob3, cb3, hX3, hbx3, hcx3, hxb3, hcm3⟩ := HWR.out wr w0.heap.size _ (HRW.out.below hbel) b c hltb hltc
                  injection hX3 with hX3; injection hX3 with e1 e2
                  subst e1; subst e2
                  obtain ⟨bx4, ox4, xc4, oc4, cc4, hX4, hbx4, hcx4, hxc4, hcm4⟩ := HWR.out wr w0.heap.size _ (HRW.out.below hbel) c b hltc hltb
                  injection hX4 with hX4; injection hX4 with e1 e2
                  subst e1; subst e2
                  obtain ⟨bx5, ox5, xa5, oa5, ca5, hX5, hbx5, hcx5, hxa5, hcm5⟩ := HWR.out wr w0.heap.size _ (HRW.out.below hbel) a c hlt hltc
                  injection hX5 with hX5; injection hX5 with e1 e2
                  subst e1; subst e2
                  obtain ⟨bx6, ox6, xc6, oc6, cc6, hX6, hbx6, hcx6, hxc6, hcm6⟩ := HWR.out wr w0.heap.size _ (HRW.out.below hbel) c a hltc hlt
                  injection hX6 with hX6; injection hX6 with e1 e2
                  subst e1; subst e2
                  obtain ⟨rfl, rfl, rfl⟩ : xb = xb3 ∧ ob = ob3 ∧ cb = cb3 := by have := hcx2.symm.trans hcx3; simpa [and_assoc] using this
                  obtain ⟨rfl, rfl, rfl⟩ : xa = xa5 ∧ oa = oa5 ∧ ca = ca5 := by have := hcx.symm.trans hcx5; simpa [and_assoc] using this
                  obtain ⟨rfl, rfl, rfl⟩ : xc4 = xc6 ∧ oc4 = oc6 ∧ cc4 = cc6 := by have := hcx4.symm.trans hcx6; simpa [and_assoc] using this
                  clear hcx3 hcx5 hcx6
                  generalize D a b = m1 at *
                  generalize D b a = m2 at *
                  generalize D b c = m3 at *
                  generalize D c b = m4 at *
                  generalize D a c = m5 at *
                  generalize D c a = m6 at *
                  by_cases g1 : m2 < m1
                  · by_cases g2 : m4 < m3
                    · have d1 : decide (m2 < m1) = true := decide_eq_true g1
                      have d2 : decide (m4 < m3) = true := decide_eq_true g2
                      have d3 : decide (m5 ≤ m6) = false := decide_eq_false (by have := htr g1 g2; omega)
                      clear hbel htr g1 g2
                      go_wp2
                      go_quiet (fail)
                      go_wp2
                      go_roundw
                      case rel => exact ⟨c + 1, by omega, by go_num, below_drewN HB3.out _⟩
                      case measure => simp [intOf]; omega
                    · have d1 : decide (m2 < m1) = true := decide_eq_true g1
                      have d2 : decide (m4 < m3) = false := decide_eq_false g2
                      clear hbel htr g1 g2
                      go_wp2
                      go_quiet (fail)
                      go_wp2
                      go_roundw
                      case rel => exact ⟨c + 1, by omega, by go_num, below_drewN HB3.out _⟩
                      case measure => simp [intOf]; omega
                  · have d1 : decide (m2 < m1) = false := decide_eq_false g1
                    clear hbel htr g1
                    go_wp2
                    go_quiet (fail)
                    go_wp2
                    go_roundw
                    case rel => exact ⟨c + 1, by omega, by go_num, below_drewN HB3.out _⟩
                    case measure => simp [intOf]; omega
                · obtain rfl : k = c := by omega
                  clear hbel
                  go_wp2
                  go_roundw
                  case rel => exact ⟨b + 1, false, by omega, by go_num, rfl, HP2.out, HB3.out⟩
                  case measure => simp [intOf]; omega
            | true =>
              have d1 : decide (m2 ≤ m1) = p2 := by rw [← hp2]; rfl
              clear hp2
              go_wp2
              go_quiet (fail)
              go_wp2
              go_loopw [68] (fun i wr => ∃ c : Nat, c ≤ k ∧ i = .int .i64 c ∧ Below w0.heap.size w0 wr) (fun i _ => k - (intOf i).toNat)
              case atStart => exact ⟨0, Nat.zero_le _, rfl, below_drewN HB2.out _⟩
              case round =>
                obtain ⟨c, hck, rfl, hbel⟩ := hrel
                have HB3 := hide hbel
                by_cases hltc : c < k
                · have htr := HTR.out a b c hlt hltb hltc
                  obtain ⟨bx1, ox1, xa, oa, ca, hX1, hbx1, hcx, hxa, hcm⟩ := HWR.out wr w0.heap.size _ (HRW.out.below hbel) a b hlt hltb
                  injection hX1 with hX1; injection hX1 with e1 e2
                  subst e1; subst e2
                  obtain ⟨bx2, ox2, xb, ob, cb, hX2, hbx2, hcx2, hxb, hcm2⟩ := HWR.out wr w0.heap.size _ (HRW.out.below hbel) b a hltb hlt
                  injection hX2 with hX2; injection hX2 with e1 e2
                  subst e1; subst e2
                  obtain ⟨bx3, ox3, xb3, ob3, cb3, hX3, hbx3, hcx3, hxb3, hcm3⟩ := HWR.out wr w0.heap.size _ (HRW.out.below hbel) b c hltb hltc
                  injection hX3 with hX3; injection hX3 with e1 e2
                  subst e1; subst e2
                  obtain ⟨bx4, ox4, xc4, oc4, cc4, hX4, hbx4, hcx4, hxc4, hcm4⟩ := HWR.out wr w0.heap.size _ (HRW.out.below hbel) c b hltc hltb
                  injection hX4 with hX4; injection hX4 with e1 e2
                  subst e1; subst e2
                  obtain ⟨bx5, ox5, xa5, oa5, ca5, hX5, hbx5, hcx5, hxa5, hcm5⟩ := HWR.out wr w0.heap.size _ (HRW.out.below hbel) a c hlt hltc
                  injection hX5 with hX5; injection hX5 with e1 e2
                  subst e1; subst e2
                  obtain ⟨bx6, ox6, xc6, oc6, cc6, hX6, hbx6, hcx6, hxc6, hcm6⟩ := HWR.out wr w0.heap.size _ (HRW.out.below hbel) c a hltc hlt
                  injection hX6 with hX6; injection hX6 with e1 e2
                  subst e1; subst e2
                  obtain ⟨rfl, rfl, rfl⟩ : xb = xb3 ∧ ob = ob3 ∧ cb = cb3 := by have := hcx2.symm.trans hcx3; simpa [and_assoc] using this
                  obtain ⟨rfl, rfl, rfl⟩ : xa = xa5 ∧ oa = oa5 ∧ ca = ca5 := by have := hcx.symm.trans hcx5; simpa [and_assoc] using this
                  obtain ⟨rfl, rfl, rfl⟩ : xc4 = xc6 ∧ oc4 = oc6 ∧ cc4 = cc6 := by have := hcx4.symm.trans hcx6; simpa [and_assoc] using this
                  clear hcx3 hcx5 hcx6
                  generalize D a b = m1 at *
                  generalize D b a = m2 at *
                  generalize D b c = m3 at *
                  generalize D c b = m4 at *
                  generalize D a c = m5 at *
                  generalize D c a = m6 at *
                  by_cases g1 : m2 < m1
                  · by_cases g2 : m4 < m3
                    · have d1 : decide (m2 < m1) = true := decide_eq_true g1
                      have d2 : decide (m4 < m3) = true := decide_eq_true g2
                      have d3 : decide (m5 ≤ m6) = false := decide_eq_false (by have := htr g1 g2; omega)
                      clear hbel htr g1 g2
                      go_wp2
                      go_quiet (fail)
                      go_wp2
                      go_roundw
                      case rel => exact ⟨c + 1, by omega, by go_num, below_drewN HB3.out _⟩
                      case measure => simp [intOf]; omega
                    · have d1 : decide (m2 < m1) = true := decide_eq_true g1
                      have d2 : decide (m4 < m3) = false := decide_eq_false g2
                      clear hbel htr g1 g2
                      go_wp2
                      go_quiet (fail)
                      go_wp2
                      go_roundw
                      case rel => exact ⟨c + 1, by omega, by go_num, below_drewN HB3.out _⟩
                      case measure => simp [intOf]; omega
                  · have d1 : decide (m2 < m1) = false := decide_eq_false g1
                    clear hbel htr g1
                    go_wp2
                    go_quiet (fail)
                    go_wp2
                    go_roundw
                    case rel => exact ⟨c + 1, by omega, by go_num, below_drewN HB3.out _⟩
                    case measure => simp [intOf]; omega
                · obtain rfl : k = c := by omega
                  clear hbel
                  go_wp2
                  go_roundw
                  case rel => exact ⟨b + 1, p2, by omega, by go_num, rfl, HP2.out, HB3.out⟩
                  case measure => simp [intOf]; omega
          · obtain rfl : k = b := by omega
            have hst : strongB D k a = pl := by
              rw [Bool.eq_iff_iff, hpl.out, strongB_iff]; rfl
            cases pl with
            | false =>
              have hf : firstTo D k (a + 1) = fa := by rw [firstTo_no (fun h => by rw [hst] at h; cases h.1), HFA.out]
              have HF := hide hf
              clear hbel hpl hst hf
              go_wp2
              go_roundw
              case rel => exact ⟨a + 1, by omega, by go_num, by rw [HF.out], HB2.out⟩
              case measure => simp [intOf]; omega
            | true =>
              by_cases h0 : fa < 0
              · have hf : firstTo D k (a + 1) = (a : Nat) := firstTo_yes (by rw [HFA.out]; exact h0) hst
                have HF := hide hf
                have d0 : decide (fa < 0) = true := decide_eq_true h0
                clear hbel hpl hst hf h0
                go_wp2
                go_roundw
                case rel => exact ⟨a + 1, by omega, by go_num, by rw [HF.out], HB2.out⟩
                case measure => simp [intOf]; omega
              · have hf : firstTo D k (a + 1) = fa := by rw [firstTo_no (fun h => h0 (by rw [← HFA.out]; exact h.2)), HFA.out]
                have HF := hide hf
                have d0 : decide (fa < 0) = false := decide_eq_false h0
                clear hbel hpl hst hf h0
                go_wp2
                go_roundw
                case rel => exact ⟨a + 1, by omega, by go_num, by rw [HF.out], HB2.out⟩
                case measure => simp [intOf]; omega
      · obtain rfl : k = a := by omega
        obtain ⟨f, hf, hfe, hbit⟩ := HEND.out
        rw [HFX.out] at hfe
        rw [HFX.out]
        subst hfe
        have t1 := shr_test bs f hbs62
        rw [hbit] at t1
        have hf0 : (0 : Int) ≤ (f : Int) := by omega
        clear hbel hbit
        go_wp2_with (go_at_call 23; refine (awake_any _).mono ?_; rintro e w9 ⟨rfl, hb9⟩; have HB9 := hide hb9; clear hb9)
        go_ret
        exact ⟨rfl, (HB.out.trans (HB1.out.mono HB.out.size)).trans (HB9.out.mono (by have := HB.out.size; have := HB1.out.size; omega))⟩
end Go.Proofs.Ytejijddfepgnkaa
