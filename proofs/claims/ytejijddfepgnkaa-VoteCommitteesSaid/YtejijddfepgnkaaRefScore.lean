/-
  The reference's Score, Committee, Blocks and Group.
-/
import Derived.Test.YtejijddfepgnkaaRefCom
namespace Go.Proofs.Ytejijddfepgnkaa
open Go.RowKit
set_option linter.unusedVariables false
set_option linter.unusedSimpArgs false

set_option maxRecDepth 100000 in
set_option maxHeartbeats 1600000 in
theorem refScore_any (C K v cp M B : Nat) (S : List Nat) (A : Option Addr) (w : World) (hS : AOk S C K v) (hM : M < 512) (hA : IntsA w B A (up S)) :
    Calls Try.prog 88 #[.slice A v cp, .int .i64 (M : Nat)] w fun e w' => e = .returned (.int .i64 (scN S M : Nat)) ∧ w = w' := by
  have hv9 := hS.v9
  have HLEN := hide hS.len
  have HLT : Hid (∀ i, i < v → S.getD i 0 < 256) := fun i hi => hS.lt8 hi
  have HA := hide hA
  clear hS hA
  go_enter Try.func88, Try.ntmps88
  go_wp2
  go_loop [5, 11] (fun s i => ∃ a : Nat, a ≤ v ∧ i = .int .i64 a ∧ s = .int .i64 (scTo S M a : Nat)) (fun _ i => v - (intOf i).toNat)
  case atStart => exact ⟨0, Nat.zero_le _, rfl, rfl⟩
  case round =>
    obtain ⟨a, ha, rfl, rfl⟩ := hrel
    by_cases hlt : a < v
    · obtain ⟨b, o, x, rfl, hb, hc, hx⟩ := HA.out.at_ (k := a) (by rw [up_length, HLEN.out]; exact hlt)
      obtain ⟨s, hs⟩ : ∃ s, S.getD a 0 = s := ⟨_, rfl⟩
      obtain rfl : x = (s : Int) := by rw [← hx.out, up_getD, hs]
      have hs9 : s < 256 := by rw [← hs]; exact HLT.out a hlt
      have hband := band_nat s M (by omega) (by omega)
      have hsc := scTo_le S M a
      obtain ⟨t, ht⟩ : ∃ t, scTo S M a = t := ⟨_, rfl⟩
      obtain ⟨N, hN⟩ : ∃ N, cn (s &&& M) = N := ⟨_, rfl⟩
      have hN9 : N ≤ 9 := by rw [← hN]; exact cn_le _
      have HCO := hide (size9_any (s &&& M) (and_lt512 (by omega)) w)
      rw [hN] at HCO
      have HNX : Hid (scTo S M (a + 1) = t + part N) := by show scTo S M a + part (cn (S.getD a 0 &&& M)) = _; rw [ht, hs, hN]
      rw [ht] at hsc ⊢
      clear hx hs ht hN
      go_wp2_with fail
      go_loop [5, 8] (fun s i => ∃ m : Nat, m ≤ N ∧ i = .int .i64 (m + 1 : Nat) ∧ s = .int .i64 (t + part m : Nat)) (fun _ i => N + 1 - (intOf i).toNat)
      case atStart => exact ⟨0, Nat.zero_le _, rfl, rfl⟩
      case round =>
        obtain ⟨m, hm, rfl, rfl⟩ := hrel
        by_cases hltm : m < N
        · obtain ⟨d, hd, hd8, hd1, hd2⟩ := div840 m
          have hd3 : (840 : Int) / ((m + 1 : Nat) : Int) = (d : Int) := hd1
          have hd4 : Int.tdiv 840 ((m + 1 : Nat) : Int) = (d : Int) := hd2
          have hp := part_le m
          have HPX : Hid (part (m + 1) = part m + d) := by show part m + 840 / (m + 1) = _; rw [hd]
          obtain ⟨p, hpe⟩ : ∃ p, part m = p := ⟨_, rfl⟩
          rw [hpe] at hp HPX ⊢
          have hle : decide ((m : Int) + 1 ≤ (N : Int)) = true := decide_eq_true (by omega)
          clear hd hpe
          go_wp2_with (go_at_call 77; refine (HCO.out).mono ?_; rintro e w' ⟨rfl, rfl⟩)
          go_round
          case rel => exact ⟨m + 1, by omega, by go_num, by rw [HPX.out]; go_num⟩
          case measure => simp [intOf]; omega
        · obtain rfl : N = m := by omega
          have hle : decide ((N : Int) + 1 ≤ (N : Int)) = false := decide_eq_false (by omega)
          go_wp2_with (go_at_call 77; refine (HCO.out).mono ?_; rintro e w' ⟨rfl, rfl⟩)
          go_round
          case rel => exact ⟨a + 1, by omega, by go_num, by rw [HNX.out]; go_num⟩
          case measure => simp [intOf]; omega
    · obtain rfl : v = a := by omega
      go_wp2
      go_ret
      exact ⟨by rw [scN, HLEN.out]; rfl, rfl⟩

set_option maxRecDepth 100000 in
set_option maxHeartbeats 1600000 in
theorem refCommittee_any (C K v cp B : Nat) (S : List Nat) (A : Option Addr) (w : World) (hS : AOk S C K v) (hA : IntsA w B A (up S)) :
    Calls Try.prog 53 #[.int .i64 C, .int .i64 K, .slice A v cp] w fun e w' => e = .returned (.int .i64 (comN S C K)) ∧ w = w' := by
  have hv9 := hS.v9
  have hc8 := hS.c8
  have HSC := hide (fun M (hM : M < 512) => refScore_any C K v cp M B S A w hS hM hA)
  have HIC := hide (fun x => refIsCom_any C K x w hc8)
  have hpow := hS.pow
  obtain ⟨N, hN⟩ : ∃ N, 2 ^ C = N := ⟨_, rfl⟩
  have hsh := shl_nat C (by omega)
  have HIB : Hid (∀ s : Nat, s < N → isComB C K (s : Nat) = decide (cn s = K)) := fun s hs => by
    have e : ((2 : Int) ^ C) = (N : Int) := by rw [← hN]; push_cast; rfl
    rw [isComB, Int.toNat_natCast, e, Bool.eq_iff_iff, decide_eq_true_eq, decide_eq_true_eq]
    omega
  rw [hN] at hsh hpow
  have HSH := hide hsh
  have HRES : Hid (comN S C K = comF S K N) := by show comN S C K = _; rw [comN, hN]
  clear hA hS hN hsh
  go_enter Try.func53, Try.ntmps53
  go_wp2_with fail
  go_loop [7, 11] (fun b i => ∃ s : Nat, s ≤ N ∧ i = .int .i64 s ∧ b = .int .i64 (comF S K s)) (fun _ i => N - (intOf i).toNat)
  case atStart => exact ⟨0, Nat.zero_le _, rfl, rfl⟩
  case round =>
    obtain ⟨s, hsN, rfl, rfl⟩ := hrel
    obtain ⟨hcb1, hcb2⟩ := comF_bd S K s
    by_cases hlt : s < N
    · have dlt : decide ((s : Int) < wrap64 ((2 : Int) ^ C)) = true := by rw [HSH.out]; simp; exact hlt
      have HI := hide (HIC.out (s : Nat))
      rw [HIB.out s hlt] at HI
      obtain ⟨m, hm⟩ : ∃ m, cn s = m := ⟨_, rfl⟩
      have HM := hide hm
      have HYES := hide (@comF_yes S K s)
      have HNO := hide (@comF_no S K s)
      rw [hm] at HI
      have hs512 : s < 512 := by omega
      by_cases hK : m = K
      · obtain rfl : K = m := hK.symm
        rw [decide_eq_true rfl] at HI
        by_cases hneg : comF S K s < 0
        · have HNX := hide (HYES.out hm (Or.inl hneg))
          obtain ⟨t, ht⟩ : ∃ t, comF S K s = t := ⟨_, rfl⟩
          rw [ht] at hcb1 hcb2 hneg ⊢
          obtain rfl : t = -1 := by omega
          clear hm ht hneg
          go_wp2_with (go_at_call 54; refine (HI.out).mono ?_; rintro e w' ⟨rfl, rfl⟩)
          go_round
          case rel => exact ⟨s + 1, by omega, by go_num, by rw [HNX.out]⟩
          case measure => simp [intOf]; omega
        · obtain ⟨t, ht⟩ : ∃ t : Nat, comF S K s = (t : Int) := ⟨(comF S K s).toNat, by omega⟩
          have htl : t < 512 := by rw [ht] at hcb2; omega
          rw [ht] at HYES HNO ⊢
          rw [Int.toNat_natCast] at HYES HNO
          obtain ⟨p1, hp1⟩ : ∃ p, scN S s = p := ⟨_, rfl⟩
          obtain ⟨p2, hp2⟩ : ∃ p, scN S t = p := ⟨_, rfl⟩
          have HS1 := hide (HSC.out s hs512)
          have HS2 := hide (HSC.out t htl)
          rw [hp1] at HS1 HYES HNO
          rw [hp2] at HS2 HYES HNO
          by_cases hlt2 : p2 < p1
          · have dgt : decide ((p2 : Int) < (p1 : Int)) = true := decide_eq_true (by omega)
            have dgn : decide (p2 < p1) = true := decide_eq_true hlt2
            have HNX := hide (HYES.out hm (Or.inr hlt2))
            clear hm ht hneg hp1 hp2 hlt2
            go_wp2_with fail
            refine (HI.out).mono ?_
            rintro e w' ⟨rfl, rfl⟩
            go_wp2_with fail
            refine (HS1.out).mono ?_
            rintro e w' ⟨rfl, rfl⟩
            go_wp2_with fail
            refine (HS2.out).mono ?_
            rintro e w' ⟨rfl, rfl⟩
            go_wp2
            go_round
            case rel => exact ⟨s + 1, by omega, by go_num, by rw [HNX.out]⟩
            case measure => simp [intOf]; omega
          · have dgt : decide ((p2 : Int) < (p1 : Int)) = false := decide_eq_false (by omega)
            have dgn : decide (p2 < p1) = false := decide_eq_false hlt2
            have HNX : Hid (comF S K (s + 1) = (t : Int)) := by
              show comF S K (s + 1) = (t : Int)
              exact HNO.out fun h9 => by rcases h9.2 with h8 | h8 <;> omega
            clear hm ht hneg hp1 hp2 hlt2
            go_wp2_with fail
            refine (HI.out).mono ?_
            rintro e w' ⟨rfl, rfl⟩
            go_wp2_with fail
            refine (HS1.out).mono ?_
            rintro e w' ⟨rfl, rfl⟩
            go_wp2_with fail
            refine (HS2.out).mono ?_
            rintro e w' ⟨rfl, rfl⟩
            go_wp2
            go_round
            case rel => exact ⟨s + 1, by omega, by go_num, by rw [HNX.out]⟩
            case measure => simp [intOf]; omega
      · have HNX := hide (HNO.out (fun h => hK (by rw [← hm]; exact h.1)))
        rw [decide_eq_false hK] at HI
        obtain ⟨t, ht⟩ : ∃ t, comF S K s = t := ⟨_, rfl⟩
        rw [ht] at HNX ⊢
        clear hm ht hK
        go_wp2_with (go_at_call 54; refine (HI.out).mono ?_; rintro e w' ⟨rfl, rfl⟩)
        go_round
        case rel => exact ⟨s + 1, by omega, by go_num, by rw [HNX.out]⟩
        case measure => simp [intOf]; omega
    · obtain rfl : N = s := by omega
      have dlt : decide ((N : Int) < wrap64 ((2 : Int) ^ C)) = false := by rw [HSH.out]; simp
      go_wp2
      go_ret
      exact ⟨by rw [HRES.out]; rfl, rfl⟩

set_option maxRecDepth 100000 in
set_option maxHeartbeats 1600000 in
theorem refBlocks_any (C K v cp g com B : Nat) (S : List Nat) (A : Option Addr) (w : World) (hS : AOk S C K v) (hg : g < 512) (hcom : com < 256) (hA : IntsA w B A (up S)) :
    Calls Try.prog 89 #[.int .i64 C, .int .i64 K, .slice A v cp, .int .i64 (com : Nat), .int .i64 (g : Nat)] w fun e w' => e = .returned (.bool (blkB S C K com g)) ∧ w = w' := by
  have hv9 := hS.v9
  have hv1 := hS.v1
  have hc8 := hS.c8
  have hk8 := hS.kc
  have HLEN := hide hS.len
  have HLT : Hid (∀ i, i < v → S.getD i 0 < 256) := fun i hi => hS.lt8 hi
  have HCM : Hid (∀ i, comm S C g i < 256) := fun i => Nat.lt_of_lt_of_le (comm_lt S C g i) hS.pow
  have HA := hide hA
  have HFULL := hide (full_nat C (by omega))
  obtain ⟨N, hN⟩ : ∃ N, cn g = N := ⟨_, rfl⟩
  have hN9 : N ≤ 9 := by rw [← hN]; exact cn_le _
  have hP : N * K ≤ 72 := Nat.le_trans (Nat.mul_le_mul hN9 (show K ≤ 8 by omega)) (by decide)
  obtain ⟨hm1, hm2, hm3⟩ := mul_nat N K (by omega)
  have HCO := hide (size9_any g hg w)
  rw [hN] at HCO
  have HG0 : Hid (g = 0 → N * K = 0) := fun h => by rw [← hN, h, cn_zero, Nat.zero_mul]
  have HBL : Hid (blkB S C K com g = (decide (v ≤ N * K) && (!meetB S com g v) && decide (comm S C g v ≠ 0))) := by
    show blkB S C K com g = _
    rw [blkB, HLEN.out, hN]
  obtain ⟨P, hPe⟩ : ∃ P, N * K = P := ⟨_, rfl⟩
  rw [hPe] at hm1 hm2 hm3 hP HBL HG0
  clear hS hA hN hPe
  go_enter Try.func89, Try.ntmps89
  go_wp2_with fail
  go_loop [11, 19] (fun m i => ∃ a : Nat, a ≤ v ∧ i = .int .i64 a ∧ m = .int .i64 (comm S C g a : Nat) ∧ Hid (meetB S com g a = false)) (fun _ i => v - (intOf i).toNat)
  case atStart => exact ⟨0, Nat.zero_le _, rfl, by first | rfl | (rw [HFULL.out]; rfl), by show meetB S com g 0 = false; rfl⟩
  case round =>
    obtain ⟨a, ha, rfl, rfl, hme⟩ := hrel
    by_cases hlt : a < v
    · obtain ⟨b, o, x, rfl, hb, hc, hx⟩ := HA.out.at_ (k := a) (by rw [up_length, HLEN.out]; exact hlt)
      obtain ⟨s, hs⟩ : ∃ s, S.getD a 0 = s := ⟨_, rfl⟩
      obtain rfl : x = (s : Int) := by rw [← hx.out, up_getD, hs]
      have hs9 : s < 256 := by rw [← hs]; exact HLT.out a hlt
      have HS := hide hs
      have t0 := shr_test g a (by omega)
      have hcm9 := HCM.out a
      have HCS : Hid (comm S C g (a + 1) = if g.testBit a then comm S C g a &&& s else comm S C g a) := by show comm S C g (a + 1) = _; rw [comm, hs]
      obtain ⟨m, hm⟩ : ∃ m, comm S C g a = m := ⟨_, rfl⟩
      rw [hm] at hcm9 HCS ⊢
      have hb1 := band_nat s com (by omega) (by omega)
      have hb2 := band_nat m s (by omega) (by omega)
      clear hx hs hm
      cases hg1 : g.testBit a with
      | false =>
        rw [hg1] at t0
        have HN := hide (meet_succ_no hme.out (i := a) (fun h => by rw [hg1] at h; cases h.1))
        have HC2 : Hid (comm S C g (a + 1) = m) := by show _ = _; rw [HCS.out, hg1]; rfl
        clear hg1
        go_wp2
        go_round
        case rel => exact ⟨a + 1, by omega, by go_num, by rw [HC2.out], HN⟩
        case measure => simp [intOf]; omega
      | true =>
        rw [hg1] at t0
        by_cases h0 : s &&& com = 0
        · have HN := hide (meet_succ_no hme.out (i := a) (fun h => h.2 (by rw [HS.out]; exact h0)))
          have HC2 : Hid (comm S C g (a + 1) = m &&& s) := by show _ = _; rw [HCS.out, hg1]; rfl
          rw [h0] at hb1
          clear hg1 h0
          go_wp2
          go_round
          case rel => exact ⟨a + 1, by omega, by go_num, by rw [HC2.out], HN⟩
          case measure => simp [intOf]; omega
        · obtain ⟨e1, e2, e3⟩ := ne_zero_int h0
          have HBF : Hid (blkB S C K com g = false) := by
            show blkB S C K com g = false
            rw [HBL.out, meet_yes hlt hg1 (by rw [HS.out]; exact h0)]; simp
          clear hg1 h0
          go_wp2
          go_ret
          exact ⟨by rw [HBF.out]; rfl, rfl⟩
    · obtain rfl : v = a := by omega
      have HFI : Hid (blkB S C K com g = (decide (v ≤ P) && decide (comm S C g v ≠ 0))) := by
        show blkB S C K com g = _
        rw [HBL.out, hme.out]; simp
      obtain ⟨m, hm⟩ : ∃ m, comm S C g v = m := ⟨_, rfl⟩
      rw [hm] at HFI ⊢
      clear hm
      by_cases hgz : g = 0
      · have HFF : Hid (blkB S C K com g = false) := by show _ = _; rw [HFI.out, decide_eq_false (by have := HG0.out hgz; omega)]; rfl
        have dg : decide ((0 : Int) < (g : Int)) = false := decide_eq_false (by omega)
        have dg2 : decide (0 < g) = false := decide_eq_false (by omega)
        clear hgz
        go_wp2
        go_ret
        exact ⟨by rw [HFF.out]; rfl, rfl⟩
      · have dg : decide ((0 : Int) < (g : Int)) = true := decide_eq_true (by omega)
        have dg2 : decide (0 < g) = true := decide_eq_true (by omega)
        clear hgz
        by_cases h0 : m = 0
        · subst h0
          have HFF : Hid (blkB S C K com g = false) := by show _ = _; rw [HFI.out]; simp
          go_wp2
          go_ret
          exact ⟨by rw [HFF.out]; rfl, rfl⟩
        · obtain ⟨e1, e2, e3⟩ := ne_zero_int h0
          have HD : Hid (blkB S C K com g = decide (v ≤ P)) := by show _ = _; rw [HFI.out, decide_eq_true h0, Bool.and_true]
          have hm0 : ¬ (m : Int) = 0 := by omega
          clear h0
          by_cases hvp : v ≤ P
          · have HD2 : Hid (blkB S C K com g = true) := by show _ = _; rw [HD.out, decide_eq_true hvp]
            have dv : decide ((v : Int) ≤ (P : Int)) = true := decide_eq_true (by omega)
            have dv2 : decide (v ≤ P) = true := decide_eq_true hvp
            clear hvp
            go_wp2_with (go_at_call 77; refine (HCO.out).mono ?_; rintro e w' ⟨rfl, rfl⟩)
            go_ret
            exact ⟨by rw [HD2.out]; rfl, rfl⟩
          · have HD2 : Hid (blkB S C K com g = false) := by show _ = _; rw [HD.out, decide_eq_false hvp]
            have dv : decide ((v : Int) ≤ (P : Int)) = false := decide_eq_false (by omega)
            have dv2 : decide (v ≤ P) = false := decide_eq_false hvp
            clear hvp
            go_wp2_with (go_at_call 77; refine (HCO.out).mono ?_; rintro e w' ⟨rfl, rfl⟩)
            go_ret
            exact ⟨by rw [HD2.out]; rfl, rfl⟩

set_option maxRecDepth 100000 in
set_option maxHeartbeats 1600000 in
theorem refGroup_any (C K v cp X B : Nat) (S : List Nat) (A : Option Addr) (w : World) (hS : AOk S C K v) (hX : X < 256) (hA : IntsA w B A (up S)) :
    Calls Try.prog 55 #[.int .i64 C, .int .i64 K, .slice A v cp, .int .i64 (X : Nat)] w fun e w' => e = .returned (if grpN S C K X = 0 then .tuple #[.int .i64 0, .int .i64 4] else .tuple #[.int .i64 (grpN S C K X : Nat), .int .i64 0]) ∧ w = w' := by
  have hv9 := hS.v9
  have HBK := hide (fun g (hg : g < 512) => refBlocks_any C K v cp g X B S A w hS hg hX hA)
  have HCO := hide (fun M (hM : M < 512) => size9_any M hM w)
  have hpv : 2 ^ v ≤ 512 := Nat.le_trans (Nat.pow_le_pow_right (by decide) hv9) (by decide)
  obtain ⟨V, hV⟩ : ∃ V : Nat, 2 ^ v = V := ⟨_, rfl⟩
  have hshv := shl_nat v (by omega)
  rw [hV] at hshv hpv
  have HSV := hide hshv
  have HRES : Hid (grpN S C K X = grpF S C K X V) := by show grpN S C K X = _; rw [grpN, hS.len, hV]
  rw [HRES.out]
  obtain ⟨R, hR⟩ : ∃ R : Value, (if grpF S C K X V = 0 then .tuple #[.int .i64 0, .int .i64 4] else .tuple #[.int .i64 (grpF S C K X V : Nat), .int .i64 0]) = R := ⟨_, rfl⟩
  rw [hR]
  have HR := hide hR
  clear hA hS hV hshv HRES hR
  go_enter Try.func55, Try.ntmps55
  go_wp2_with fail
  go_loop [10, 15] (fun b i => ∃ g : Nat, g ≤ V ∧ i = .int .i64 g ∧ b = .int .i64 (grpF S C K X g : Nat)) (fun _ i => V - (intOf i).toNat)
  case atStart => exact ⟨0, Nat.zero_le _, rfl, rfl⟩
  case round =>
    obtain ⟨g, hgV, rfl, rfl⟩ := hrel
    have hbd := grpF_bd S C K X g
    by_cases hlt : g < V
    · have dlt : decide ((g : Int) < wrap64 ((2 : Int) ^ v)) = true := by rw [HSV.out]; simp; exact hlt
      have HYES := hide (@grpF_yes S C K X g)
      have HNO := hide (@grpF_no S C K X g)
      obtain ⟨t, ht⟩ : ∃ t, grpF S C K X g = t := ⟨_, rfl⟩
      rw [ht] at HYES HNO hbd ⊢
      obtain ⟨p, hp⟩ : ∃ p, cn g = p := ⟨_, rfl⟩
      obtain ⟨q, hq⟩ : ∃ q, cn t = q := ⟨_, rfl⟩
      have HC1 := hide (HCO.out g (by omega))
      have HC2 := hide (HCO.out t (by omega))
      rw [hp] at HYES HNO HC1
      rw [hq] at HYES HNO HC2
      have HB2 := hide (HBK.out g (by omega))
      clear hp hq ht hbd
      cases hbk : blkB S C K X g with
      | true =>
        rw [hbk] at HB2
        by_cases hqp : q < p
        · have dgt : decide ((q : Int) < (p : Int)) = true := decide_eq_true (by omega)
          have dgn : decide (q < p) = true := decide_eq_true hqp
          have HNX := hide (HYES.out hqp hbk)
          clear hbk hqp
          go_wp2_with fail
          refine (HB2.out).mono ?_
          rintro e w' ⟨rfl, rfl⟩
          go_wp2_with fail
          refine (HC1.out).mono ?_
          rintro e w' ⟨rfl, rfl⟩
          go_wp2_with fail
          refine (HC2.out).mono ?_
          rintro e w' ⟨rfl, rfl⟩
          go_wp2
          go_round
          case rel => exact ⟨g + 1, by omega, by go_num, by rw [HNX.out]⟩
          case measure => simp [intOf]; omega
        · have dgt : decide ((q : Int) < (p : Int)) = false := decide_eq_false (by omega)
          have dgn : decide (q < p) = false := decide_eq_false hqp
          have HNX := hide (HNO.out (fun h => hqp h.1))
          clear hbk hqp
          go_wp2_with fail
          refine (HB2.out).mono ?_
          rintro e w' ⟨rfl, rfl⟩
          go_wp2_with fail
          refine (HC1.out).mono ?_
          rintro e w' ⟨rfl, rfl⟩
          go_wp2_with fail
          refine (HC2.out).mono ?_
          rintro e w' ⟨rfl, rfl⟩
          go_wp2
          go_round
          case rel => exact ⟨g + 1, by omega, by go_num, by rw [HNX.out]⟩
          case measure => simp [intOf]; omega
      | false =>
        have HNX := hide (HNO.out (fun h => by rw [hbk] at h; cases h.2))
        rw [hbk] at HB2
        clear hbk
        go_wp2_with fail
        refine (HB2.out).mono ?_
        rintro e w' ⟨rfl, rfl⟩
        go_wp2
        go_round
        case rel => exact ⟨g + 1, by omega, by go_num, by rw [HNX.out]⟩
        case measure => simp [intOf]; omega
    · obtain rfl : V = g := by omega
      have dlt : decide ((V : Int) < wrap64 ((2 : Int) ^ v)) = false := by rw [HSV.out]; simp
      generalize grpF S C K X V = t at *
      by_cases h0 : t = 0
      · subst h0
        have hR2 : R = .tuple #[.int .i64 0, .int .i64 4] := by rw [← HR.out, if_pos rfl]
        subst hR2
        go_wp2
        go_ret2
        exact ⟨rfl, rfl⟩
      · obtain ⟨e1, e2, e3⟩ := ne_zero_int h0
        have hR2 : R = .tuple #[.int .i64 (t : Nat), .int .i64 0] := by rw [← HR.out, if_neg h0]
        subst hR2
        have h1 : decide (t = 0) = false := decide_eq_false h0
        go_wp2
        go_ret2
        exact ⟨rfl, rfl⟩
end Go.Proofs.Ytejijddfepgnkaa
