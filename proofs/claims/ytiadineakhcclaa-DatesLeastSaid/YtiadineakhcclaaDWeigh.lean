/-
  dates: weight, best.
-/
import Derived.Test.YtiadineakhcclaaDFits
import Derived.Test.YtiadineakhcclaaDOnes
import Derived.BigQuiet
namespace Go.Proofs.Ytiadineakhcclaa
open Go.RowKit
set_option linter.unusedVariables false
set_option linter.unusedSimpArgs false

def wtN (L : List J4) (S k : Nat) : Int := sumF (fun j => if S.testBit j = true then (L.getD j j0).w else 0) k
theorem wtN_bd {L : List J4} (hL : JobsOk L) (S : Nat) : ∀ k, k ≤ L.length → 0 ≤ wtN L S k ∧ wtN L S k ≤ 20 * k
  | 0, _ => ⟨Int.le_refl _, by simp [wtN, sumF]⟩
  | k + 1, h => by
      obtain ⟨h1, h2⟩ := wtN_bd hL S k (by omega)
      have h3 := hL.at_ k (by omega)
      have e : wtN L S (k + 1) = wtN L S k + if S.testBit k = true then (L.getD k j0).w else 0 := rfl
      rw [e]
      split <;> constructor <;> push_cast <;> omega
set_option maxRecDepth 100000 in
set_option maxHeartbeats 1600000 in
theorem weight_any (A : Option Addr) (n c S : Nat) (L : List J4) (w : World) (hn : L.length = n) (hL : JobsOk L) (hS : S < 256) (hA : JobsA w w.heap.size A L) :
    Calls Try.prog 74 #[.slice A n c, .int .i64 (S : Nat)] w fun e w' => e = .returned (.int .i64 (wtN L S n)) ∧ Below w.heap.size w w' := by
  have h8 : n ≤ 8 := by rw [← hn]; exact hL.le
  have HA := hide hA
  have HL := hide hL
  have HN := hide hn
  have hS62 : S < 2 ^ 62 := Nat.lt_trans hS (by decide)
  clear hA hL hn
  go_enter Try.func74, Try.ntmps74
  go_wp2
  go_loopw [5, 10] (fun v5 v10 wr => ∃ (k : Nat) (y : Int), k ≤ n ∧ v10 = .int .i64 k ∧ v5 = .int .i64 y ∧ Hid (y = wtN L S k) ∧ Below w.heap.size w wr) (fun _ v _ => n - (intOf v).toNat)
  case atStart => exact ⟨0, 0, Nat.zero_le _, rfl, rfl, hide rfl, Below.refl _ _⟩
  case round =>
    obtain ⟨k, y, hk, rfl, rfl, HY, hb2⟩ := hrel
    by_cases hlt : k < n
    · obtain ⟨bj, oj, t, r, d, u, rfl, hbj, hj0, hj1, hj2, hj3, hxj⟩ := (HA.out.next hb2).at_ (k := k) (by rw [HN.out]; exact hlt)
      have hkn : (k : Int) < (n : Int) := by omega
      have hdb := HL.out.at_ k (by rw [HN.out]; exact hlt)
      rw [hxj.out] at hdb
      simp only [] at hdb
      obtain ⟨_, _, _, _, _, _, hdb0, hdb1⟩ := hdb
      have hy := wtN_bd HL.out S k (by rw [HN.out]; omega)
      rw [← HY.out] at hy
      have hkk : (k : Int) ≤ 8 := by omega
      obtain ⟨b, hb⟩ : ∃ b : Int, b = if S.testBit k = true then 1 else 0 := ⟨_, rfl⟩
      obtain ⟨p, hp⟩ : ∃ p : Int, p = if S.testBit k = true then u else 0 := ⟨_, rfl⟩
      have hbit : bits .and .i64 ((S : Int) / 2 ^ k) 1 = b := by rw [hb]; exact shr_bit S k hS62
      have hpb : 0 ≤ p ∧ p ≤ 20 := by rw [hp]; split <;> omega
      have hup : u * b = p := by rw [hb, hp]; split <;> omega
      have HM : Hid (IntKind.i64.wrap (u * b) = p) := by rw [hup, IntKind.wrap_i64]; exact hide (by omega)
      have HP : Hid (IntKind.i64.wrap (y + p) = y + p) := by rw [IntKind.wrap_i64]; exact hide (by omega)
      have HYN : Hid (y + p = wtN L S (k + 1)) := hide (by
        show _ = wtN L S k + if S.testBit k = true then (L.getD k j0).w else 0
        rw [hxj.out, ← HY.out, hp])
      have HBW : Hid (∀ o q, Below w.heap.size w ((wr.alloc o).drewN q)) := fun o q => below_drewN (hb2.alloc hb2.size _) q
      have hm := HM.out
      have hpp := HP.out
      clear hxj hb2 hup hb hp
      go_wp2
      go_quiet (fail)
      go_wp2
      go_roundw
      case rel => exact ⟨k + 1, _, by omega, by go_num, rfl, HYN, HBW.out _ _⟩
      case measure => simp [intOf] <;> omega
    · obtain rfl : n = k := by omega
      have e9 := HY.out
      subst e9
      have HB9 := hide hb2
      clear hb2
      go_wp2
      go_ret
      exact ⟨rfl, HB9.out⟩
end Go.Proofs.Ytiadineakhcclaa
