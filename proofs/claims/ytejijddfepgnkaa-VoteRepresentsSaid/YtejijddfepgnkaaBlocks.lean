/-
  vote: council.blocks.
-/
import Derived.Test.YtejijddfepgnkaaScore
import Derived.BigQuiet
namespace Go.Proofs.Ytejijddfepgnkaa
open Go.RowKit
set_option linter.unusedVariables false
set_option linter.unusedSimpArgs false

theorem meet_succ_no {S : List Nat} {com g i : Nat} (h : meetB S com g i = false) (h1 : ¬ (g.testBit i = true ∧ S.getD i 0 &&& com ≠ 0)) : meetB S com g (i + 1) = false := by
  rw [← Bool.not_eq_true, meetB_iff] at *
  rintro ⟨j, hj, g1, g2⟩
  rcases (by omega : j < i ∨ j = i) with h3 | rfl
  · exact h ⟨j, h3, g1, g2⟩
  · exact h1 ⟨g1, g2⟩
theorem meet_yes {S : List Nat} {com g i n : Nat} (hi : i < n) (h1 : g.testBit i = true) (h2 : S.getD i 0 &&& com ≠ 0) : meetB S com g n = true := meetB_iff.2 ⟨i, hi, h1, h2⟩
theorem ne_zero_int {x : Nat} (h : x ≠ 0) : ((x : Int) != 0) = true ∧ ((x : Int) == 0) = false ∧ (decide ((x : Int) = 0)) = false := by
  refine ⟨by simp [h], by simp [h], by simp [h]⟩
theorem mul_nat (a b : Nat) (h : a * b < 9223372036854775808) : (a : Int) * (b : Int) = ((a * b : Nat) : Int) ∧ IntKind.i64.wrap ((a : Int) * (b : Int)) = ((a * b : Nat) : Int) ∧ wrap64 ((a : Int) * (b : Int)) = ((a * b : Nat) : Int) := by
  have e : (a : Int) * (b : Int) = ((a * b : Nat) : Int) := by push_cast; rfl
  refine ⟨e, ?_, ?_⟩
  · rw [e, IntKind.wrap_i64]; omega
  · rw [e, wrapNat _ h]

set_option maxRecDepth 100000 in
set_option maxHeartbeats 1600000 in
theorem blocks_any (C K v cp g com : Nat) (S : List Nat) (A : Option Addr) (w : World) (hS : AOk S C K v) (hg : g < 512) (hcom : com < 256) (hA : IntsA w w.heap.size A (up S)) :
    Calls Try.prog 87 #[.agg #[.int .i64 C, .int .i64 K, .slice A v cp], .int .i64 (g : Nat), .int .i64 (com : Nat)] w fun e w' => e = .returned (.bool (blkB S C K com g)) ∧ Below w.heap.size w w' := by
  have hv9 := hS.v9
  have hc8 := hS.c8
  have hk8 := hS.kc
  have HLEN := hide hS.len
  have HLT : Hid (∀ i, i < v → S.getD i 0 < 256) := fun i hi => hS.lt8 hi
  have HCM : Hid (∀ i, comm S C g i < 256) := fun i => Nat.lt_of_lt_of_le (comm_lt S C g i) hS.pow
  have HA := hide hA
  have HFULL := hide (full_nat C (by omega))
  have hfull := HFULL.out
  obtain ⟨N, hN⟩ : ∃ N, cn g = N := ⟨_, rfl⟩
  have hN9 : N ≤ 9 := by rw [← hN]; exact cn_le _
  have hP : N * K ≤ 72 := Nat.le_trans (Nat.mul_le_mul hN9 (show K ≤ 8 by omega)) (by decide)
  obtain ⟨hm1, hm2, hm3⟩ := mul_nat N K (by omega)
  have HCO := hide (fun w' => (count_any g hg w').mono fun e w'' (h : e = .returned (.int .i64 (cn g : Nat)) ∧ w' = w'') => (⟨h.1, h.2.symm⟩ : e = .returned (.int .i64 (cn g : Nat)) ∧ w'' = w'))
  rw [hN] at HCO
  have HBL : Hid (blkB S C K com g = (decide (v ≤ N * K) && (!meetB S com g v) && decide (comm S C g v ≠ 0))) := by
    show blkB S C K com g = _
    rw [blkB, HLEN.out, hN]
  obtain ⟨P, hPe⟩ : ∃ P, N * K = P := ⟨_, rfl⟩
  rw [hPe] at hm1 hm2 hm3 hP HBL
  clear hS hA hN hPe
  by_cases hvp : v ≤ P
  · have dv : decide ((P : Int) < (v : Int)) = false := decide_eq_false (by omega)
    have HDV : Hid (decide (v ≤ P) = true) := decide_eq_true hvp
    go_enter Try.func87, Try.ntmps87
    go_wp2
    obtain ⟨w0, hw0⟩ : ∃ w0 : World, w0 = w.alloc (.cells #[.int .i64 C, .int .i64 K, .slice A v cp] 92) := ⟨_, rfl⟩
    have hb0 : Below w.heap.size w w0 := by rw [hw0]; exact (Below.refl _ _).alloc (Nat.le_refl _) _
    have HA0 := hide (HA.out.next hb0)
    have HB0 := hide hb0
    clear hb0
    go_quiet ((go_at_call 85; exact Calls.quiet_of_same (HCO.out _)))
    go_wp2
    go_loopw [7, 26] (fun m i wr => ∃ a : Nat, a ≤ v ∧ i = .int .i64 a ∧ m = .int .i64 (comm S C g a : Nat) ∧ Hid (meetB S com g a = false) ∧ Below w0.heap.size w0 wr) (fun _ i _ => v - (intOf i).toNat)
    case atStart => exact ⟨0, Nat.zero_le _, rfl, by first | rfl | (rw [HFULL.out]; rfl), by show meetB S com g 0 = false; rfl, by rw [hw0]; exact below_drewN (Below.refl _ _) _⟩
    case round =>
      obtain ⟨a, ha, rfl, rfl, hme, hbel⟩ := hrel
      have HBE := hide hbel
      by_cases hlt : a < v
      · obtain ⟨b, o, x, rfl, hb, hc, hx⟩ := (HA0.out.below hbel).at_ (k := a) (by rw [up_length, HLEN.out]; exact hlt)
        obtain ⟨s, hs⟩ : ∃ s, S.getD a 0 = s := ⟨_, rfl⟩
        obtain rfl : x = (s : Int) := by rw [← hx.out, up_getD, hs]
        have hs9 : s < 256 := by rw [← hs]; exact HLT.out a hlt
        have HS := hide hs
        have t0 := shr_test0 g a (by omega)
        have hcm9 := HCM.out a
        have HCS : Hid (comm S C g (a + 1) = if g.testBit a then comm S C g a &&& s else comm S C g a) := by show comm S C g (a + 1) = _; rw [comm, hs]
        obtain ⟨m, hm⟩ : ∃ m, comm S C g a = m := ⟨_, rfl⟩
        rw [hm] at hcm9 HCS ⊢
        have hb1 := band_nat s com (by omega) (by omega)
        have hb2 := band_nat m s (by omega) (by omega)
        clear hx hs hm hbel
        cases hg1 : g.testBit a with
        | false =>
          rw [hg1] at t0
          have HN := hide (meet_succ_no hme.out (i := a) (fun h => by rw [hg1] at h; cases h.1))
          have HC2 : Hid (comm S C g (a + 1) = m) := by show _ = _; rw [HCS.out, hg1]; rfl
          clear hg1
          go_wp2
          go_roundw
          case rel => exact ⟨a + 1, by omega, by go_num, by rw [HC2.out], HN, HBE.out⟩
          case measure => simp [intOf]; omega
        | true =>
          rw [hg1] at t0
          by_cases h0 : s &&& com = 0
          · have HN := hide (meet_succ_no hme.out (i := a) (fun h => h.2 (by rw [HS.out]; exact h0)))
            have HC2 : Hid (comm S C g (a + 1) = m &&& s) := by show _ = _; rw [HCS.out, hg1]; rfl
            rw [h0] at hb1
            clear hg1 h0
            go_wp2
            go_roundw
            case rel => exact ⟨a + 1, by omega, by go_num, by rw [HC2.out], HN, HBE.out⟩
            case measure => simp [intOf]; omega
          · obtain ⟨e1, e2, e3⟩ := ne_zero_int h0
            have HBF : Hid (blkB S C K com g = false) := by
              show blkB S C K com g = false
              rw [HBL.out, meet_yes hlt hg1 (by rw [HS.out]; exact h0)]; simp
            clear hg1 h0
            go_wp2
            go_ret
            exact ⟨by rw [HBF.out]; rfl, HB0.out.trans (HBE.out.mono HB0.out.size)⟩
      · obtain rfl : v = a := by omega
        have HFI : Hid (blkB S C K com g = decide (comm S C g v ≠ 0)) := by
          show blkB S C K com g = _
          rw [HBL.out, HDV.out, hme.out]; rfl
        obtain ⟨m, hm⟩ : ∃ m, comm S C g v = m := ⟨_, rfl⟩
        rw [hm] at HFI ⊢
        clear hm hbel
        by_cases h0 : m = 0
        · subst h0
          go_wp2
          go_ret
          exact ⟨by rw [HFI.out]; rfl, HB0.out.trans (HBE.out.mono HB0.out.size)⟩
        · obtain ⟨e1, e2, e3⟩ := ne_zero_int h0
          have HD : Hid (decide (m ≠ 0) = true) := decide_eq_true h0
          clear h0
          go_wp2
          go_ret
          exact ⟨by rw [HFI.out, HD.out]; rfl, HB0.out.trans (HBE.out.mono HB0.out.size)⟩
  · have HBF : Hid (blkB S C K com g = false) := by show blkB S C K com g = false; rw [HBL.out, decide_eq_false hvp]; rfl
    have dv : decide ((P : Int) < (v : Int)) = true := decide_eq_true (by omega)
    go_enter Try.func87, Try.ntmps87
    go_wp2
    go_quiet ((go_at_call 85; exact Calls.quiet_of_same (HCO.out _)))
    go_wp2
    go_ret
    exact ⟨by rw [HBF.out]; rfl, below_drewN ((Below.refl _ _).alloc (Nat.le_refl _) _) _⟩
end Go.Proofs.Ytejijddfepgnkaa
