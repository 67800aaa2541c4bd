/-
  dates: the reference's Most and Weigh.
-/
import Derived.Test.YtiadineakhcclaaDMostA
import Derived.Test.YtiadineakhcclaaDRefFits
import Derived.BigQuiet
namespace Go.Proofs.Ytiadineakhcclaa
open Go.RowKit
set_option linter.unusedVariables false
set_option linter.unusedSimpArgs false

theorem cardF_hi {S n : Nat} (h : S < 2 ^ n) : ∀ d, cardF (n + d) S = cardF n S
  | 0 => rfl
  | d + 1 => by
      show cardF (n + d) S + (if S.testBit (n + d) then 1 else 0) = _
      rw [cardF_hi h d, Nat.testBit_lt_two_pow (Nat.lt_of_lt_of_le h (Nat.pow_le_pow_right (by decide) (by omega)))]; simp
theorem cardF_8 {S n : Nat} (h : S < 2 ^ n) (hn : n ≤ 8) : cardF 8 S = cardF n S := by
  have := cardF_hi h (8 - n)
  rwa [show n + (8 - n) = 8 by omega] at this
set_option maxRecDepth 100000 in
set_option maxHeartbeats 1600000 in
theorem rmost_any (A : Option Addr) (n c : Nat) (L : List J4) (w : World) (hn : L.length = n) (hL : JobsOk L) (hA : JobsA w w.heap.size A L) :
    Calls Try.prog 52 #[.slice A n c] w fun e w' => e = .returned (.int .i64 (mostN L : Nat)) ∧ Below w.heap.size w w' := by
  have h8 : n ≤ 8 := by rw [← hn]; exact hL.le
  obtain ⟨v, hv⟩ : ∃ v : Nat → Int, v = (fun S => (cardF 8 S : Int)) := ⟨_, rfl⟩
  have HF : Hid (∀ (w' : World) (S : Nat), Below w.heap.size w w' → S < 256 → Calls Try.prog 75 #[.slice A n c, .int .i64 (S : Nat)] w' fun e w'' => e = .returned (.bool (fitB L S)) ∧ Below w.heap.size w w'') := fun w' S hb hS =>
    (rfits_any A n c S L w' hn hL hS (hA.next hb)).mono fun _ _ h => ⟨h.1, hb.trans (h.2.mono hb.size)⟩
  rw [show mostN L = bestV (fun S => (cardF 8 S : Int)) (fitB L) (2 ^ n) by rw [mostN, hn], ← hv]
  obtain ⟨N, hN⟩ : ∃ N, N = 2 ^ n := ⟨_, rfl⟩
  have hN8 : N ≤ 256 := by rw [hN]; exact pow256 h8
  have HV : Hid (∀ S, S < N → v S = (cardF n S : Nat)) := fun S hS => by
    rw [hv]; show ((cardF 8 S : Nat) : Int) = _
    rw [cardF_8 (hN ▸ hS) h8]
  have HV0 : Hid (((0 : Nat) : Int) = v 0) := by rw [hv]; exact hide (by decide)
  have HW : Hid (wrap64 (2 ^ min n 64) = (N : Int)) := by rw [hN]; exact wrap_pow h8
  have HW2 : Hid (wrap64 (2 ^ n) = (N : Int)) := by rw [hN]; exact hide (shl_one n (by omega))
  rw [← hN]
  obtain ⟨f, hf⟩ : ∃ f, f = fitB L := ⟨_, rfl⟩
  rw [← hf] at HF ⊢
  clear hA hL hn hv hN hf
  go_enter Try.func52, Try.ntmps52
  go_wp2
  first | rw [HW.out] | rw [HW2.out]
  go_loopw [3, 4, 11] (fun v3 v4 v11 wr => ∃ (k b m : Nat), k ≤ N ∧ v11 = .int .i64 k ∧ v3 = .int .i64 (b : Nat) ∧ v4 = .int .i64 (m : Nat) ∧ Hid (b = bestV v f k) ∧ Hid ((m : Int) = v b) ∧ Below w.heap.size w wr) (fun _ _ v _ => N - (intOf v).toNat)
  case atStart => exact ⟨0, 0, 0, Nat.zero_le _, rfl, rfl, rfl, hide rfl, HV0, Below.refl _ _⟩
  case round =>
    obtain ⟨k, b, m, hk, rfl, rfl, rfl, HB, HM, hb⟩ := hrel
    obtain ⟨w1, rfl⟩ : ∃ w1 : World, w1 = wr := ⟨_, rfl⟩
    have HB1 := hide hb
    by_cases hlt : k < N
    · have hkn : (k : Int) < (N : Int) := by omega
      have hk8 : k < 256 := by omega
      have hk62 : k < 2 ^ 62 := Nat.lt_trans hk8 (by decide)
      have HS := hide (show bestV v f (k + 1) = if v (bestV v f k) < v k ∧ f k = true then k else bestV v f k from rfl)
      have HVK := hide (HV.out k hlt)
      rw [← HB.out, ← HM.out, HVK.out] at HS
      have HC3 := hide (HF.out w1 k hb hk8)
      obtain ⟨z, hz⟩ : ∃ z, z = f k := ⟨_, rfl⟩
      rw [← hz] at HC3 HS
      clear hz hb
      go_wp2
      go_loopw [6, 16] (fun v6 v16 wr => ∃ (j y : Nat), j ≤ n ∧ v16 = .int .i64 j ∧ v6 = .int .i64 (y : Nat) ∧ Hid (y = cardF j k) ∧ Hid (wr = w1)) (fun _ v _ => n - (intOf v).toNat)
      case atStart => exact ⟨0, 0, Nat.zero_le _, rfl, rfl, hide rfl, hide rfl⟩
      case round =>
        obtain ⟨j, y, hj, rfl, rfl, HY, HWW⟩ := hrel
        by_cases hjl : j < n
        · have hjn : (j : Int) < (n : Int) := by omega
          have hj8 : j ≤ 8 := by omega
          have hy8 : y ≤ 8 := by rw [HY.out]; have := cardF_le j k; omega
          obtain ⟨d, hd⟩ : ∃ d : Nat, d = if k.testBit j = true then 1 else 0 := ⟨_, rfl⟩
          have hbit : bits .and .i64 ((k : Int) / 2 ^ j) 1 = (d : Int) := by rw [hd, shr_bit k j hk62]; split <;> rfl
          have hd1 : d ≤ 1 := by rw [hd]; split <;> omega
          have HYN : Hid (y + d = cardF (j + 1) k) := hide (by rw [HY.out, hd]; rfl)
          clear hd
          go_wp2
          go_roundw
          case rel => exact ⟨j + 1, y + d, by omega, by go_num, by go_num, HYN, HWW⟩
          case measure => simp [intOf] <;> omega
        · obtain rfl : n = j := by omega
          have e9 := HWW.out
          subst e9
          rw [← HY.out] at HS HVK
          by_cases hmy : m < y
          · have hmy2 : (m : Int) < (y : Int) := by omega
            cases z with
            | true =>
              have HT : Hid (k = bestV v f (k + 1)) := hide (by rw [HS.out, if_pos ⟨hmy2, rfl⟩])
              clear HS
              go_wp2_with (go_at_call 75; (with_reducible refine (HC3.out).mono ?_); rintro e w4 ⟨rfl, hb4⟩; have HB4 := hide hb4; clear hb4)
              go_roundw
              case rel => exact ⟨k + 1, k, y, by omega, by go_num, rfl, rfl, HT, hide HVK.out.symm, HB4.out⟩
              case measure => simp [intOf] <;> omega
            | false =>
              have HT : Hid (b = bestV v f (k + 1)) := hide (by rw [HS.out, if_neg (fun h => by cases h.2)])
              clear HS
              go_wp2_with (go_at_call 75; (with_reducible refine (HC3.out).mono ?_); rintro e w4 ⟨rfl, hb4⟩; have HB4 := hide hb4; clear hb4)
              go_roundw
              case rel => exact ⟨k + 1, b, m, by omega, by go_num, rfl, rfl, HT, HM, HB4.out⟩
              case measure => simp [intOf] <;> omega
          · have HT : Hid (b = bestV v f (k + 1)) := hide (by rw [HS.out, if_neg (fun h => by omega)])
            clear HS
            go_wp2
            go_roundw
            case rel => exact ⟨k + 1, b, m, by omega, by go_num, rfl, rfl, HT, HM, HB1.out⟩
            case measure => simp [intOf] <;> omega
    · obtain rfl : N = k := by omega
      clear hb
      go_wp2
      go_ret
      exact ⟨by rw [← HB.out]; rfl, HB1.out⟩
end Go.Proofs.Ytiadineakhcclaa
