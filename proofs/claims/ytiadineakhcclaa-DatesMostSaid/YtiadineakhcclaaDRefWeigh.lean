/-
  dates: the reference's Weigh.
-/
import Derived.Test.YtiadineakhcclaaDRefMost
namespace Go.Proofs.Ytiadineakhcclaa
open Go.RowKit
set_option linter.unusedVariables false
set_option linter.unusedSimpArgs false

set_option maxRecDepth 100000 in
set_option maxHeartbeats 1600000 in
theorem rweigh_any (A : Option Addr) (n c : Nat) (L : List J4) (w : World) (hn : L.length = n) (hL : JobsOk L) (hA : JobsA w w.heap.size A L) :
    Calls Try.prog 51 #[.slice A n c] w fun e w' => e = .returned (.tuple #[.int .i64 (weighN L : Nat), .int .i64 (wtN L (weighN L) n)]) ∧ Below w.heap.size w w' := by
  have h8 : n ≤ 8 := by rw [← hn]; exact hL.le
  obtain ⟨v, hv⟩ : ∃ v : Nat → Int, v = (fun S => wtN L S n) := ⟨_, rfl⟩
  have HF : Hid (∀ (w' : World) (S : Nat), Below w.heap.size w w' → S < 256 → Calls Try.prog 75 #[.slice A n c, .int .i64 (S : Nat)] w' fun e w'' => e = .returned (.bool (fitB L S)) ∧ Below w.heap.size w w'') := fun w' S hb hS =>
    (rfits_any A n c S L w' hn hL hS (hA.next hb)).mono fun _ _ h => ⟨h.1, hb.trans (h.2.mono hb.size)⟩
  rw [show weighN L = bestV (fun S => wtN L S n) (fitB L) (2 ^ n) by rw [weighN, hn], ← hv]
  rw [show wtN L (bestV v (fitB L) (2 ^ n)) n = v (bestV v (fitB L) (2 ^ n)) by rw [hv]]
  have HL := hide hL
  have HN := hide hn
  have HA := hide hA
  obtain ⟨N, hN⟩ : ∃ N, N = 2 ^ n := ⟨_, rfl⟩
  have hN8 : N ≤ 256 := by rw [hN]; exact pow256 h8
  have HV : Hid (∀ S, S < N → v S = wtN L S n) := fun S hS => by rw [hv]
  have HV0 : Hid ((0 : Int) = v 0) := by
    rw [hv]
    have h0 : ∀ k, wtN L 0 k = 0 := fun k => by
      induction k with
      | zero => rfl
      | succ k ih => show wtN L 0 k + (if (0 : Nat).testBit k = true then (L.getD k j0).w else 0) = 0; rw [ih, Nat.zero_testBit]; rfl
    exact hide (h0 n).symm
  have HW : Hid (wrap64 (2 ^ min n 64) = (N : Int)) := by rw [hN]; exact wrap_pow h8
  have HW2 : Hid (wrap64 (2 ^ n) = (N : Int)) := by rw [hN]; exact hide (shl_one n (by omega))
  rw [← hN]
  obtain ⟨f, hf⟩ : ∃ f, f = fitB L := ⟨_, rfl⟩
  rw [← hf] at HF ⊢
  clear hA hL hn hv hN hf
  go_enter Try.func51, Try.ntmps51
  go_wp2
  first | rw [HW.out] | rw [HW2.out]
  go_loopw [4, 5, 13] (fun v3 v4 v11 wr => ∃ (k b : Nat) (m : Int), k ≤ N ∧ v11 = .int .i64 k ∧ v3 = .int .i64 (b : Nat) ∧ v4 = .int .i64 m ∧ Hid (b = bestV v f k) ∧ Hid (m = v b) ∧ Below w.heap.size w wr) (fun _ _ v _ => N - (intOf v).toNat)
  case atStart => exact ⟨0, 0, 0, Nat.zero_le _, rfl, rfl, rfl, hide rfl, HV0, Below.refl _ _⟩
  case round =>
    obtain ⟨k, b, m, hk, rfl, rfl, rfl, HB, HM, hb⟩ := hrel
    obtain ⟨w1, rfl⟩ : ∃ w1 : World, w1 = wr := ⟨_, rfl⟩
    have HB1 := hide hb
    by_cases hlt : k < N
    · have hkn : (k : Int) < (N : Int) := by omega
      have hk8 : k < 256 := by omega
      have hk62 : k < 2 ^ 62 := Nat.lt_trans hk8 (by decide)
      have HS := hide (show bestV v f (k + 1) = if v (bestV v f k) < v k ∧ f k = true then k else bestV v f k from rfl)
      have HVK := hide (HV.out k hlt)
      rw [← HB.out, ← HM.out, HVK.out] at HS
      have HC3 : Hid (∀ w', Below w.heap.size w w' → Calls Try.prog 75 #[.slice A n c, .int .i64 (k : Nat)] w' fun e w'' => e = .returned (.bool (f k)) ∧ Below w.heap.size w w'') := fun w' h => HF.out w' k h hk8
      obtain ⟨z, hz⟩ : ∃ z, z = f k := ⟨_, rfl⟩
      rw [← hz] at HC3 HS
      clear hz hb
      go_wp2
      go_loopw [7, 18] (fun v6 v16 wr => ∃ (j : Nat) (y : Int), j ≤ n ∧ v16 = .int .i64 j ∧ v6 = .int .i64 y ∧ Hid (y = wtN L k j) ∧ Below w.heap.size w wr) (fun _ v _ => n - (intOf v).toNat)
      case atStart => exact ⟨0, 0, Nat.zero_le _, rfl, rfl, hide rfl, HB1.out⟩
      case round =>
        obtain ⟨j, y, hj, rfl, rfl, HY, hb2⟩ := hrel
        have HB2 := hide hb2
        obtain ⟨w2, rfl⟩ : ∃ w2 : World, w2 = wr := ⟨_, rfl⟩
        by_cases hjl : j < n
        · have hjn : (j : Int) < (n : Int) := by omega
          have hj8 : (j : Int) ≤ 8 := by omega
          obtain ⟨bj, oj, t, r, d, u, rfl, hbj, hj0, hj1, hj2, hj3, hxj⟩ := (HA.out.next hb2).at_ (k := j) (by rw [HN.out]; exact hjl)
          have hdb := HL.out.at_ j (by rw [HN.out]; exact hjl)
          rw [hxj.out] at hdb
          simp only [] at hdb
          obtain ⟨_, _, _, _, _, _, hdb0, hdb1⟩ := hdb
          have hy := wtN_bd HL.out k j (by rw [HN.out]; omega)
          rw [← HY.out] at hy
          obtain ⟨bt, hbt⟩ : ∃ b : Int, b = if k.testBit j = true then 1 else 0 := ⟨_, rfl⟩
          obtain ⟨p, hp⟩ : ∃ p : Int, p = if k.testBit j = true then u else 0 := ⟨_, rfl⟩
          have hbit : bits .and .i64 ((k : Int) / 2 ^ j) 1 = bt := by rw [hbt]; exact shr_bit k j hk62
          have hpb : 0 ≤ p ∧ p ≤ 20 := by rw [hp]; split <;> omega
          have hup : bt * u = p := by rw [hbt, hp]; split <;> omega
          have HM9 : Hid (IntKind.i64.wrap (bt * u) = p) := by rw [hup, IntKind.wrap_i64]; exact hide (by omega)
          have HP9 : Hid (IntKind.i64.wrap (y + p) = y + p) := by rw [IntKind.wrap_i64]; exact hide (by omega)
          have HYN : Hid (y + p = wtN L k (j + 1)) := hide (by
            show _ = wtN L k j + if k.testBit j = true then (L.getD j j0).w else 0
            rw [hxj.out, ← HY.out, hp])
          have HBW : Hid (∀ o q, Below w.heap.size w ((w2.alloc o).drewN q)) := fun o q => below_drewN (hb2.alloc hb2.size _) q
          have hm := HM9.out
          have hpp := HP9.out
          clear hxj hb2 hup hbt hp
          go_wp2
          go_quiet (fail)
          go_wp2
          go_roundw
          case rel => exact ⟨j + 1, _, by omega, by go_num, rfl, HYN, HBW.out _ _⟩
          case measure => simp [intOf] <;> omega
        · obtain rfl : n = j := by omega
          rw [← HY.out] at HS HVK
          clear hb2
          by_cases hmy : m < y
          · have hmy2 : (m : Int) < (y : Int) := by omega
            cases z with
            | true =>
              have HT : Hid (k = bestV v f (k + 1)) := hide (by rw [HS.out, if_pos ⟨hmy2, rfl⟩])
              clear HS
              go_wp2_with (go_at_call 75; (with_reducible refine (HC3.out _ HB2.out).mono ?_); rintro e w4 ⟨rfl, hb4⟩; have HB4 := hide hb4; clear hb4)
              go_roundw
              case rel => exact ⟨k + 1, k, y, by omega, by go_num, rfl, rfl, HT, hide HVK.out.symm, HB4.out⟩
              case measure => simp [intOf] <;> omega
            | false =>
              have HT : Hid (b = bestV v f (k + 1)) := hide (by rw [HS.out, if_neg (fun h => by cases h.2)])
              clear HS
              go_wp2_with (go_at_call 75; (with_reducible refine (HC3.out _ HB2.out).mono ?_); rintro e w4 ⟨rfl, hb4⟩; have HB4 := hide hb4; clear hb4)
              go_roundw
              case rel => exact ⟨k + 1, b, m, by omega, by go_num, rfl, rfl, HT, HM, HB4.out⟩
              case measure => simp [intOf] <;> omega
          · have HT : Hid (b = bestV v f (k + 1)) := hide (by rw [HS.out, if_neg (fun h => by omega)])
            clear HS
            go_wp2
            go_roundw
            case rel => exact ⟨k + 1, b, m, by omega, by go_num, rfl, rfl, HT, HM, HB2.out⟩
            case measure => simp [intOf] <;> omega
    · obtain rfl : N = k := by omega
      clear hb
      go_wp2
      go_ret2
      exact ⟨by rw [← HB.out, ← HM.out]; rfl, HB1.out⟩
end Go.Proofs.Ytiadineakhcclaa
