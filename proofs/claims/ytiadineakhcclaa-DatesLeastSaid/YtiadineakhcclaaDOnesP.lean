/-
  dates (plain): with the weight 1 for all Weigh is Most; the bits of a set, one by one.
-/
import Derived.Test.YtiadineakhcclaaDRefMost
namespace Go.Proofs.Ytiadineakhcclaa
open Go.RowKit
set_option linter.unusedVariables false
set_option linter.unusedSimpArgs false

def w1J (j : J4) : J4 := ⟨j.t, j.r, j.d, 1⟩
theorem wt_ones {L : List J4} (S : Nat) : ∀ k, k ≤ L.length → wtN (L.map w1J) S k = (cardF k S : Nat)
  | 0, _ => rfl
  | k + 1, h => by
      show wtN (L.map w1J) S k + (if S.testBit k = true then ((L.map w1J).getD k j0).w else 0) = ((cardF k S + if S.testBit k = true then 1 else 0 : Nat) : Int)
      have e : ((L.map w1J).getD k j0).w = 1 := by rw [List.getD_eq_getElem?_getD, List.getElem?_map, List.getElem?_eq_getElem (by omega)]; rfl
      rw [wt_ones S k (by omega), e]
      split <;> push_cast <;> omega
theorem bestV_congr {v v' : Nat → Int} {f : Nat → Bool} {N : Nat} (h : ∀ S, S < N → v S = v' S) : ∀ k, k ≤ N → bestV v f k = bestV v' f k
  | 0, _ => rfl
  | k + 1, hk => by
      have ih := bestV_congr (f := f) h k (by omega)
      have := bestV_le v' f k
      unfold bestV
      rw [ih, h k (by omega), h _ (by omega)]
theorem ones_same {L : List J4} (hL : L.length ≤ 8) : weighN (L.map w1J) = mostN (L.map w1J) := by
  unfold weighN mostN
  refine bestV_congr (fun S hS => ?_) _ (Nat.le_refl _)
  rw [List.length_map] at hS ⊢
  rw [wt_ones S _ (Nat.le_refl _), cardF_8 hS hL]
theorem ones_wt {L : List J4} (hL : L.length ≤ 8) (hJ : JobsOk (L.map w1J)) : wtN (L.map w1J) (weighN (L.map w1J)) L.length = (cardF 8 (mostN (L.map w1J)) : Nat) := by
  have h2 : ∀ k, 0 < k → bestV (fun S => wtN (L.map w1J) S (L.map w1J).length) (fitB (L.map w1J)) k < k := fun k hk => by
    induction k with
    | zero => omega
    | succ k ih =>
      have := bestV_le (fun S => wtN (L.map w1J) S (L.map w1J).length) (fitB (L.map w1J)) k
      unfold bestV
      split <;> omega
  have h3 := h2 _ (Nat.two_pow_pos (L.map w1J).length)
  rw [wt_ones _ _ (Nat.le_refl _), ← ones_same hL, cardF_8 (n := L.length) _ hL]
  rw [List.length_map] at h3
  unfold weighN
  rw [List.length_map]
  exact h3
theorem bestV_lt (v : Nat → Int) (f : Nat → Bool) : ∀ k, 0 < k → bestV v f k < k := fun k hk => by
  induction k with
  | zero => omega
  | succ k ih =>
    have := bestV_le v f k
    unfold bestV
    split <;> omega
theorem mostN_lt {L : List J4} (h : L.length ≤ 8) : mostN L < 256 := Nat.lt_of_lt_of_le (bestV_lt _ _ _ (Nat.two_pow_pos _)) (pow256 h)
theorem drop_one : ∀ T : Nat, T < 256 → 0 < T → cardF 8 (T &&& (T - 1)) + 1 = cardF 8 T := by decide +kernel
end Go.Proofs.Ytiadineakhcclaa
