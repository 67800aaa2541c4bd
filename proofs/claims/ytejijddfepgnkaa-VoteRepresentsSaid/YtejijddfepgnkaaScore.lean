/-
  vote: council.score.
-/
import Derived.Test.YtejijddfepgnkaaOnes9
import Derived.BigQuiet
namespace Go.Proofs.Ytejijddfepgnkaa
open Go.RowKit
set_option linter.unusedVariables false
set_option linter.unusedSimpArgs false

theorem and_lt512 {a b : Nat} (h : a < 512) : a &&& b < 512 := Nat.lt_of_le_of_lt Nat.and_le_left h
theorem div840 (m : Nat) : ∃ d : Nat, 840 / (m + 1) = d ∧ d ≤ 840 ∧ (840 : Int) / ((m : Int) + 1) = (d : Int) ∧ Int.tdiv 840 ((m : Int) + 1) = (d : Int) := by
  have e : (840 : Int) / ((m : Int) + 1) = ((840 / (m + 1) : Nat) : Int) := by rw [Int.natCast_ediv, Int.natCast_add]; rfl
  refine ⟨840 / (m + 1), rfl, Nat.div_le_self _ _, e, ?_⟩
  rw [Int.tdiv_eq_ediv_of_nonneg (by omega)]
  exact e

set_option maxRecDepth 100000 in
set_option maxHeartbeats 1600000 in
theorem score_any (C K v cp M : Nat) (S : List Nat) (A : Option Addr) (w : World) (hS : AOk S C K v) (hM : M < 512) (hA : IntsA w w.heap.size A (up S)) :
    Calls Try.prog 86 #[.agg #[.int .i64 C, .int .i64 K, .slice A v cp], .int .i64 (M : Nat)] w fun e w' => e = .returned (.int .i64 (scN S M : Nat)) ∧ Below w.heap.size w w' := by
  have hv9 := hS.v9
  have HLEN := hide hS.len
  have HLT : Hid (∀ i, i < v → S.getD i 0 < 256) := fun i hi => hS.lt8 hi
  have HA := hide hA
  clear hS hA
  go_enter Try.func86, Try.ntmps86
  go_wp2
  obtain ⟨w0, hw0⟩ : ∃ w0 : World, w0 = w.alloc (.cells #[.int .i64 C, .int .i64 K, .slice A v cp] 92) := ⟨_, rfl⟩
  have hb0 : Below w.heap.size w w0 := by rw [hw0]; exact (Below.refl _ _).alloc (Nat.le_refl _) _
  have HA0 := hide (HA.out.next hb0)
  have HB0 := hide hb0
  rw [← hw0]
  clear hw0 hb0
  go_loop [5, 12] (fun s i => ∃ a : Nat, a ≤ v ∧ i = .int .i64 a ∧ s = .int .i64 (scTo S M a : Nat)) (fun _ i => v - (intOf i).toNat)
  case atStart => exact ⟨0, Nat.zero_le _, rfl, rfl⟩
  case round =>
    obtain ⟨a, ha, rfl, rfl⟩ := hrel
    by_cases hlt : a < v
    · obtain ⟨b, o, x, rfl, hb, hc, hx⟩ := HA0.out.at_ (k := a) (by rw [up_length, HLEN.out]; exact hlt)
      obtain ⟨s, hs⟩ : ∃ s, S.getD a 0 = s := ⟨_, rfl⟩
      obtain rfl : x = (s : Int) := by rw [← hx.out, up_getD, hs]
      have hs9 : s < 256 := by rw [← hs]; exact HLT.out a hlt
      have hband := band_nat s M (by omega) (by omega)
      have hsc := scTo_le S M a
      obtain ⟨t, ht⟩ : ∃ t, scTo S M a = t := ⟨_, rfl⟩
      obtain ⟨N, hN⟩ : ∃ N, cn (s &&& M) = N := ⟨_, rfl⟩
      have hN9 : N ≤ 9 := by rw [← hN]; exact cn_le _
      have HCO := hide (count_any (s &&& M) (and_lt512 (by omega)) w0)
      rw [hN] at HCO
      have HNX : Hid (scTo S M (a + 1) = t + part N) := by show scTo S M a + part (cn (S.getD a 0 &&& M)) = _; rw [ht, hs, hN]
      rw [ht] at hsc ⊢
      clear hx hs ht hN
      go_wp2_with (go_at_call 85; refine (HCO.out).mono ?_; rintro e w' ⟨rfl, rfl⟩)
      go_loop [5, 20] (fun s i => ∃ m : Nat, m ≤ N ∧ i = .int .i64 m ∧ s = .int .i64 (t + part m : Nat)) (fun _ i => N - (intOf i).toNat)
      case atStart => exact ⟨0, Nat.zero_le _, rfl, rfl⟩
      case round =>
        obtain ⟨m, hm, rfl, rfl⟩ := hrel
        by_cases hltm : m < N
        · obtain ⟨d, hd, hd8, hd1, hd2⟩ := div840 m
          have hp := part_le m
          have HPX : Hid (part (m + 1) = part m + d) := by show part m + 840 / (m + 1) = _; rw [hd]
          obtain ⟨p, hpe⟩ : ∃ p, part m = p := ⟨_, rfl⟩
          rw [hpe] at hp HPX ⊢
          clear hd hpe
          go_wp2
          go_round
          case rel => exact ⟨m + 1, by omega, by go_num, by rw [HPX.out]; go_num⟩
          case measure => simp [intOf]; omega
        · obtain rfl : N = m := by omega
          go_wp2
          go_round
          case rel => exact ⟨a + 1, by omega, by go_num, by rw [HNX.out]⟩
          case measure => simp [intOf]; omega
    · obtain rfl : v = a := by omega
      go_wp2
      go_ret
      exact ⟨by rw [scN, HLEN.out]; rfl, HB0.out⟩
end Go.Proofs.Ytejijddfepgnkaa
