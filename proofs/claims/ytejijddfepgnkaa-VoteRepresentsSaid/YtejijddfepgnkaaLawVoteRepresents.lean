/-
  The walk of VoteRepresents.
-/
import Derived.Test.YtejijddfepgnkaaGroup
import Derived.Test.YtejijddfepgnkaaRepPlain
import Derived.Test.YtejijddfepgnkaaVoteBase
namespace Go.Proofs.Ytejijddfepgnkaa
open Go.RowKit
set_option linter.unusedVariables false
set_option linter.unusedSimpArgs false


def cntTo (g a : Nat) : Nat := sumN (fun i => ind (g.testBit i)) a
def cmz (S : List Nat) (C g a : Nat) : Int := if cntTo g a = 0 then -1 else (comm S C g a : Nat)
theorem and_neg1 : ∀ s : Fin 256, bits .and .i64 (-1) (s.val : Int) = (s.val : Int) := by decide +kernel
theorem comm_start {S : List Nat} {C g : Nat} : ∀ {a : Nat}, cntTo g a = 0 → comm S C g a = 2 ^ C - 1
  | 0, _ => rfl
  | a + 1, h => by
    simp only [cntTo, sumN] at h
    have h1 : g.testBit a = false := by
      cases hb : g.testBit a with
      | false => rfl
      | true => rw [hb] at h; simp [ind] at h
    simp only [comm]
    rw [h1]
    exact comm_start (by unfold cntTo; omega)
theorem cnt_yes {g a : Nat} (h : g.testBit a = true) : cntTo g (a + 1) = cntTo g a + 1 := by
  show sumN _ a + ind (g.testBit a) = _
  rw [h]; rfl
theorem cnt_no {g a : Nat} (h : g.testBit a = false) : cntTo g (a + 1) = cntTo g a := by
  show sumN _ a + ind (g.testBit a) = _
  rw [h]; rfl
theorem cmz_no {S : List Nat} {C g a : Nat} (h : g.testBit a = false) : cmz S C g (a + 1) = cmz S C g a := by
  unfold cmz
  rw [cnt_no h, comm, h]; rfl
theorem cmz_yes {S : List Nat} {C K v g a : Nat} (hS : AOk S C K v) (ha : a < v) (h : g.testBit a = true) : bits .and .i64 (cmz S C g a) (S.getD a 0 : Nat) = cmz S C g (a + 1) := by
  have hs := hS.lt a ha
  have hp := hS.pow
  have e1 : cmz S C g (a + 1) = (comm S C g a &&& S.getD a 0 : Nat) := by
    unfold cmz
    rw [cnt_yes h, if_neg (by omega), comm, if_pos h]
  rw [e1]
  unfold cmz
  by_cases h0 : cntTo g a = 0
  · rw [if_pos h0, comm_start h0, and_neg1 ⟨S.getD a 0, by omega⟩]
    rw [Nat.and_comm, Nat.and_two_pow_sub_one_of_lt_two_pow hs]
  · rw [if_neg h0]
    have := comm_lt S C g a
    exact band_nat _ _ (by omega) (by omega)
theorem cnt_le (g : Nat) : ∀ a, cntTo g a ≤ a
  | 0 => Nat.le_refl _
  | a + 1 => by
    have h1 := cnt_le g a
    have h2 : ind (g.testBit a) ≤ 1 := by unfold ind; split <;> omega
    show cntTo g a + ind (g.testBit a) ≤ _
    omega
set_option maxRecDepth 100000 in
set_option maxHeartbeats 3200000 in
theorem voteRepresents_any (c k : Int) (X : Option Addr) (m cm : Nat) (l : List Int) (x : Int) (w : World) (hc : -9223372036854775808 ≤ c ∧ c ≤ 9223372036854775807) (hk : -9223372036854775808 ≤ k ∧ k ≤ 9223372036854775807) (hm : l.length = m) (hmc : m ≤ cm) (hlm : m ≤ 9223372036854775807) (hX : IntsA w w.heap.size X l) (hx : -9223372036854775808 ≤ x ∧ x ≤ 9223372036854775807) :
    Calls Try.prog 18 #[.int .i64 c, .int .i64 k, .slice X m cm, .int .i64 x] w fun e w' => e = .returned (.bool true) ∧ Below w.heap.size w w' := by
  obtain ⟨q2, hq2⟩ : ∃ q2, (l.take 11).length = q2 := ⟨_, rfl⟩
  have HLI := hide (vlist_in hm hmc hlm hq2 hX)
  have hq211 : q2 ≤ 11 := by rw [← hq2, List.length_take]; omega
  cases hv : appB c k l
  · have hv2 : appB c k (l.take 11) = false := by rw [appB_take]; exact hv
    have HCN : Hid (∀ X' cx w1, IntsA w1 w1.heap.size X' (l.take 11) → Calls Try.prog 50 #[.int .i64 c, .int .i64 k, .slice X' q2 cx] w1 fun e w' => e = .returned (.tuple #[.int .i64 0, .int .i64 2]) ∧ Below w1.heap.size w1 w') := fun X' cx w1 h => Committee_no c k X' q2 cx (l.take 11) w1 hq2 (by omega) h hv2
    clear hv hv2 hm hX hq2
    go_enter Try.func18, Try.ntmps18
    have hb := Below.refl w.heap.size w
    go_wp2_with fail
    refine (HLI.out _ hb).mono ?_
    rintro e w1 ⟨A1, c1, rfl, hc1, hI1, hbn⟩
    replace hb := hb.trans (hbn.mono hb.size)
    clear hbn
    go_wp2_with fail
    refine (HCN.out _ _ _ hI1).mono ?_
    rintro e w2 ⟨rfl, hbn⟩
    replace hI1 := hI1.next hbn
    replace hb := hb.trans (hbn.mono hb.size)
    clear hbn
    clear hI1
    go_wp2_with fail
    refine (awake_any _).mono ?_
    rintro e w3 ⟨rfl, hbn⟩
    replace hb := hb.trans (hbn.mono hb.size)
    clear hbn
    go_wp2
    go_ret
    exact ⟨rfl, hb⟩
  · obtain ⟨C, K, S, rfl, rfl, hS, hok⟩ := app_ok hv
    subst hS
    rw [app_same hv] at hq2 HLI
    have hqm : m = q2 := by rw [← hm, ← hq2]
    subst hqm
    have hvS : appB C K (up S) = true := hv
    rw [hm] at hok
    have hc8 := hok.c8
    have hk8 := hok.kc
    have hv9 := hok.v9
    have hK8 : K ≤ 8 := Nat.le_trans hk8 hc8
    obtain ⟨com, hcome, hcom⟩ := comN_greatest hok
    have hicc : isComB C K (com : Nat) = true := by
      rw [isComB, decide_eq_true_eq, Int.toNat_natCast]
      have e : ((2 ^ C : Nat) : Int) = (2 : Int) ^ C := by push_cast; rfl
      have := hcom.lt
      exact ⟨by omega, by omega, hcom.cn⟩
    have hgr0 : grpN S C K com = 0 := by
      rw [grpN, hok.len]
      exact grpF_none fun g hg => no_block hok hcom hg
    have HCY : Hid (∀ X' cx w1, IntsA w1 w1.heap.size X' (up S) → Calls Try.prog 50 #[.int .i64 C, .int .i64 K, .slice X' m cx] w1 fun e w' => e = .returned (.tuple #[.int .i64 (com : Nat), .int .i64 0]) ∧ Below w1.heap.size w1 w') := fun X' cx w1 h => by
      rw [← hcome]; exact Committee_yes C K m cx S X' w1 hok h hvS
    have HG1 : Hid (∀ X' cx w1, IntsA w1 w1.heap.size X' (up S) → Calls Try.prog 51 #[.int .i64 C, .int .i64 K, .slice X' m cx, .int .i64 (com : Nat)] w1 fun e w' => e = .returned (.tuple #[.int .i64 0, .int .i64 4]) ∧ Below w1.heap.size w1 w') := fun X' cx w1 h => by
      have := Group_yes C K m cx (com : Nat) S X' w1 hok h hvS
      rw [grpR, hicc, if_pos rfl, Int.toNat_natCast, hgr0, if_pos rfl] at this
      exact this
    have hg0 := fun X' cx w1 (h : IntsA w1 w1.heap.size X' (up S)) => Group_yes C K m cx x S X' w1 hok h hvS
    have hX2 : IntsA w w.heap.size X (up S) := hX
    cases hic : isComB C K x with
    | false =>
      have HGY : Hid (∀ X' cx w1, IntsA w1 w1.heap.size X' (up S) → Calls Try.prog 51 #[.int .i64 C, .int .i64 K, .slice X' m cx, .int .i64 x] w1 fun e w' => e = .returned (.tuple #[.int .i64 0, .int .i64 2]) ∧ Below w1.heap.size w1 w') := fun X' cx w1 h => by
        have := hg0 X' cx w1 h
        rw [grpR, hic] at this
        exact this
      clear hv hvS hm hX hq2 hok hg0 hic hcom hcome hicc hgr0 hX2
      go_enter Try.func18, Try.ntmps18
      have hb := Below.refl w.heap.size w
      go_wp2_with fail
      refine (HLI.out _ hb).mono ?_
      rintro e w1 ⟨A1, c1, rfl, hc1, hI1, hbn⟩
      replace hb := hb.trans (hbn.mono hb.size)
      clear hbn
      go_wp2_with fail
      refine (HCY.out _ _ _ hI1).mono ?_
      rintro e w2 ⟨rfl, hbn⟩
      replace hI1 := hI1.next hbn
      replace hb := hb.trans (hbn.mono hb.size)
      clear hbn
      clear hI1
      go_wp2_with fail
      refine (HLI.out _ hb).mono ?_
      rintro e w3 ⟨A3, c3, rfl, hc3, hI3, hbn⟩
      replace hb := hb.trans (hbn.mono hb.size)
      clear hbn
      go_wp2_with fail
      refine (HG1.out _ _ _ hI3).mono ?_
      rintro e w4 ⟨rfl, hbn⟩
      replace hI3 := hI3.next hbn
      replace hb := hb.trans (hbn.mono hb.size)
      clear hbn
      clear hI3
      go_wp2_with fail
      refine (HLI.out _ hb).mono ?_
      rintro e w5 ⟨A5, c5, rfl, hc5, hI5, hbn⟩
      replace hb := hb.trans (hbn.mono hb.size)
      clear hbn
      go_wp2_with fail
      refine (HGY.out _ _ _ hI5).mono ?_
      rintro e w6 ⟨rfl, hbn⟩
      replace hI5 := hI5.next hbn
      replace hb := hb.trans (hbn.mono hb.size)
      clear hbn
      clear hI5
      go_wp2_with fail
      refine (awake_any _).mono ?_
      rintro e w7 ⟨rfl, hbn⟩
      replace hb := hb.trans (hbn.mono hb.size)
      clear hbn
      go_wp2
      go_ret
      exact ⟨rfl, hb⟩
    | true =>
      have h := hic
      rw [isComB, decide_eq_true_eq] at h
      obtain ⟨X0, rfl⟩ : ∃ X0 : Nat, x = X0 := ⟨x.toNat, by omega⟩
      have hX0 : X0 < 256 := by
        have h2 := h.2.1
        have e : ((2 ^ C : Nat) : Int) = (2 : Int) ^ C := by push_cast; rfl
        have := hok.pow
        omega
      by_cases hgz : grpN S C K X0 = 0
      · have HGY : Hid (∀ X' cx w1, IntsA w1 w1.heap.size X' (up S) → Calls Try.prog 51 #[.int .i64 C, .int .i64 K, .slice X' m cx, .int .i64 (X0 : Nat)] w1 fun e w' => e = .returned (.tuple #[.int .i64 0, .int .i64 4]) ∧ Below w1.heap.size w1 w') := fun X' cx w1 h => by
          have := hg0 X' cx w1 h
          rw [grpR, hic, if_pos rfl, Int.toNat_natCast, hgz, if_pos rfl] at this
          exact this
        clear hv hvS hm hX hq2 hok hg0 hic hcom hcome hicc hgr0 hX2 h hgz
        go_enter Try.func18, Try.ntmps18
        have hb := Below.refl w.heap.size w
        go_wp2_with fail
        refine (HLI.out _ hb).mono ?_
        rintro e w1 ⟨A1, c1, rfl, hc1, hI1, hbn⟩
        replace hb := hb.trans (hbn.mono hb.size)
        clear hbn
        go_wp2_with fail
        refine (HCY.out _ _ _ hI1).mono ?_
        rintro e w2 ⟨rfl, hbn⟩
        replace hI1 := hI1.next hbn
        replace hb := hb.trans (hbn.mono hb.size)
        clear hbn
        clear hI1
        go_wp2_with fail
        refine (HLI.out _ hb).mono ?_
        rintro e w3 ⟨A3, c3, rfl, hc3, hI3, hbn⟩
        replace hb := hb.trans (hbn.mono hb.size)
        clear hbn
        go_wp2_with fail
        refine (HG1.out _ _ _ hI3).mono ?_
        rintro e w4 ⟨rfl, hbn⟩
        replace hI3 := hI3.next hbn
        replace hb := hb.trans (hbn.mono hb.size)
        clear hbn
        clear hI3
        go_wp2_with fail
        refine (HLI.out _ hb).mono ?_
        rintro e w5 ⟨A5, c5, rfl, hc5, hI5, hbn⟩
        replace hb := hb.trans (hbn.mono hb.size)
        clear hbn
        go_wp2_with fail
        refine (HGY.out _ _ _ hI5).mono ?_
        rintro e w6 ⟨rfl, hbn⟩
        replace hI5 := hI5.next hbn
        replace hb := hb.trans (hbn.mono hb.size)
        clear hbn
        clear hI5
        go_wp2_with fail
        refine (awake_any _).mono ?_
        rintro e w7 ⟨rfl, hbn⟩
        replace hb := hb.trans (hbn.mono hb.size)
        clear hbn
        go_wp2
        go_ret
        exact ⟨rfl, hb⟩
      · have hgb : grpN S C K X0 < 2 ^ m ∧ blkB S C K X0 (grpN S C K X0) = true := by
          rw [grpN, hok.len] at hgz ⊢
          exact grpF_blk hgz
        have HGY : Hid (∀ X' cx w1, IntsA w1 w1.heap.size X' (up S) → Calls Try.prog 51 #[.int .i64 C, .int .i64 K, .slice X' m cx, .int .i64 (X0 : Nat)] w1 fun e w' => e = .returned (.tuple #[.int .i64 (grpN S C K X0 : Nat), .int .i64 0]) ∧ Below w1.heap.size w1 w') := fun X' cx w1 h => by
          have := hg0 X' cx w1 h
          rw [grpR, hic, if_pos rfl, Int.toNat_natCast, if_neg hgz] at this
          exact this
        obtain ⟨G, hG⟩ : ∃ G, grpN S C K X0 = G := ⟨_, rfl⟩
        rw [hG] at hgb HGY hgz
        obtain ⟨hGlt, hblk⟩ := hgb
        rw [blkB, Bool.and_eq_true, Bool.and_eq_true, decide_eq_true_eq, decide_eq_true_eq, Bool.not_eq_true', hok.len] at hblk
        obtain ⟨⟨hb1, hb2⟩, hb3⟩ := hblk
        have hG512 : G < 512 := Nat.lt_of_lt_of_le hGlt (Nat.le_trans (Nat.pow_le_pow_right (by decide) hv9) (by decide))
        have hcnt : cntTo G m = cn G := sum_bits hv9 hGlt
        have hcp : 1 ≤ cn G := cn_pos hG512 hgz
        have hcl := cn_le G
        have HOK := hide hok
        have HX2 := hide hX2
        have HME : Hid (∀ i, i < m → G.testBit i = true → S.getD i 0 &&& X0 = 0) := fun i hi hgi => by
          refine Classical.byContradiction fun h9 => ?_
          rw [meetB_iff.2 ⟨i, hi, hgi, h9⟩] at hb2
          cases hb2
        have HLS := hide hok.len
        have HEND : Hid (∃ N c : Nat, cntTo G m = N ∧ cmz S C G m = c ∧ c ≠ 0 ∧ 0 < N ∧ N ≤ 9 ∧ m ≤ N * K) := ⟨cn G, comm S C G m, hcnt, by unfold cmz; rw [hcnt, if_neg (by omega)], hb3, by omega, hcl, hb1⟩
        clear hv hvS hm hX hq2 hok hg0 hic hcom hcome hicc hgr0 hX2 h hgz hG hb1 hb2 hb3 hGlt hcnt hcp hcl
        go_enter Try.func18, Try.ntmps18
        have hb := Below.refl w.heap.size w
        go_wp2_with fail
        refine (HLI.out _ hb).mono ?_
        rintro e w1 ⟨A1, c1, rfl, hc1, hI1, hbn⟩
        replace hb := hb.trans (hbn.mono hb.size)
        clear hbn
        go_wp2_with fail
        refine (HCY.out _ _ _ hI1).mono ?_
        rintro e w2 ⟨rfl, hbn⟩
        replace hI1 := hI1.next hbn
        replace hb := hb.trans (hbn.mono hb.size)
        clear hbn
        clear hI1
        go_wp2_with fail
        refine (HLI.out _ hb).mono ?_
        rintro e w3 ⟨A3, c3, rfl, hc3, hI3, hbn⟩
        replace hb := hb.trans (hbn.mono hb.size)
        clear hbn
        go_wp2_with fail
        refine (HG1.out _ _ _ hI3).mono ?_
        rintro e w4 ⟨rfl, hbn⟩
        replace hI3 := hI3.next hbn
        replace hb := hb.trans (hbn.mono hb.size)
        clear hbn
        clear hI3
        go_wp2_with fail
        refine (HLI.out _ hb).mono ?_
        rintro e w5 ⟨A5, c5, rfl, hc5, hI5, hbn⟩
        replace hb := hb.trans (hbn.mono hb.size)
        clear hbn
        go_wp2_with fail
        refine (HGY.out _ _ _ hI5).mono ?_
        rintro e w6 ⟨rfl, hbn⟩
        replace hI5 := hI5.next hbn
        replace hb := hb.trans (hbn.mono hb.size)
        clear hbn
        clear hI5
        obtain ⟨w0, hw0⟩ : ∃ w0 : World, w0 = w6 := ⟨_, rfl⟩
        subst hw0
        have HB := hide hb
        have HXW := hide (HX2.out.below hb)
        clear hb
        go_wp2_with fail
        go_loop [15, 16, 71] (fun n cm i => ∃ a : Nat, a ≤ m ∧ i = .int .i64 a ∧ n = .int .i64 (cntTo G a : Nat) ∧ cm = .int .i64 (cmz S C G a)) (fun _ _ i => m - (intOf i).toNat)
        case atStart => exact ⟨0, Nat.zero_le _, rfl, rfl, rfl⟩
        case round =>
          obtain ⟨a, ha, rfl, rfl, rfl⟩ := hrel
          by_cases hlt : a < m
          · obtain ⟨b, o, y, rfl, hbb, hcc, hy⟩ := HXW.out.at_ (k := a) (by rw [up_length, HLS.out]; exact hlt)
            obtain ⟨s, hs⟩ : ∃ s, S.getD a 0 = s := ⟨_, rfl⟩
            obtain rfl : y = (s : Int) := by rw [← hy.out, up_getD, hs]
            have hs9 : s < 256 := by rw [← hs]; exact HOK.out.lt8 hlt
            have t0 := shr_test G a (by omega)
            have hcl := cnt_le G a
            cases hg1 : G.testBit a with
            | false =>
              rw [hg1] at t0
              have HN1 := hide (cnt_no hg1)
              have HN2 := hide (cmz_no (S := S) (C := C) hg1)
              generalize cntTo G a = n0 at *
              generalize cmz S C G a = z0 at *
              clear hg1 hs hy
              go_wp2
              go_round
              case rel => exact ⟨a + 1, by omega, by go_num, by rw [HN1.out], by rw [HN2.out]⟩
              case measure => simp [intOf]; omega
            | true =>
              rw [hg1] at t0
              have HN1 := hide (cnt_yes hg1)
              have hz := cmz_yes HOK.out hlt hg1
              have h0 := HME.out a hlt hg1
              rw [hs] at hz h0
              have hba := band_nat s X0 (by omega) (by omega)
              rw [h0] at hba
              obtain ⟨z1, hz1⟩ : ∃ z1, cmz S C G (a + 1) = z1 := ⟨_, rfl⟩
              rw [hz1] at hz
              have HZ1 := hide hz1
              generalize cntTo G a = n0 at *
              generalize cmz S C G a = z0 at *
              clear hg1 hs hy hz1 h0
              go_wp2
              go_round
              case rel => exact ⟨a + 1, by omega, by go_num, by rw [HN1.out]; go_num, by rw [HZ1.out]⟩
              case measure => simp [intOf]; omega
          · obtain rfl : m = a := by omega
            obtain ⟨N, c, hN, hc, hc0, hNp, hN9, hle⟩ := HEND.out
            rw [hN, hc]
            clear hN hc
            have hP : N * K ≤ 72 := Nat.le_trans (Nat.mul_le_mul hN9 hK8) (by decide)
            obtain ⟨hm1, hm2, hm3⟩ := mul_nat N K (Nat.lt_of_le_of_lt hP (by decide))
            obtain ⟨P, hPe⟩ : ∃ P, N * K = P := ⟨_, rfl⟩
            rw [hPe] at hm1 hm2 hm3 hP hle
            clear hm2 hm3 hPe
            have hwP : wrap64 (P : Int) = (P : Int) := wrapNat P (by omega)
            obtain ⟨e1, e2, e3⟩ := ne_zero_int hc0
            have d1 : decide ((0 : Int) < (N : Int)) = true := decide_eq_true (by omega)
            have d2 : decide (0 < N) = true := decide_eq_true hNp
            have d3 : decide ((m : Int) ≤ (P : Int)) = true := decide_eq_true (Int.ofNat_le.2 hle)
            have d4 : decide (m ≤ P) = true := decide_eq_true hle
            have hc9 : ¬ (c : Int) = 0 := by omega
            go_wp2_with (go_at_call 23; refine (awake_any _).mono ?_; rintro e w9 ⟨rfl, hb9⟩; have HB9 := hide hb9; clear hb9)
            go_ret
            exact ⟨rfl, HB.out.trans (HB9.out.mono HB.out.size)⟩
end Go.Proofs.Ytejijddfepgnkaa
