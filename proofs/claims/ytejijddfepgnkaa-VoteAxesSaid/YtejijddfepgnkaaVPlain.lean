/-
  Votes, plain: disagreement pair by pair, margins, points and the first best.
-/
import Derived.Test.YtejijddfepgnkaaMargEq
import Derived.Test.YtejijddfepgnkaaDisagree
import Derived.Test.YtejijddfepgnkaaWinner
import Derived.Test.YtejijddfepgnkaaFirsts
import Derived.Test.YtejijddfepgnkaaBorda
namespace Go.Proofs.Ytejijddfepgnkaa
open Go.RowKit
set_option linter.unusedVariables false
set_option linter.unusedSimpArgs false

def rdC (W : List (List Nat)) (x y : Nat) : Nat := W.countP fun l => decide (place l y < place l x)
def rdR (W : List (List Nat)) (x : Nat) : List Nat → Nat
  | [] => 0
  | y :: r => rdC W x y + rdR W x r
def rdO (W : List (List Nat)) : List Nat → Nat
  | [] => 0
  | x :: r => rdR W x r + rdO W r
theorem disN_cons (W : List (List Nat)) (x : Nat) (r : List Nat) : disN W (x :: r) = (W.map fun l => disR l x r).sum + disN W r := by
  induction W with
  | nil => rfl
  | cons l W ih => simp only [disN, List.map_cons, List.sum_cons, disO] at ih ⊢; omega
theorem rdR_eq (W : List (List Nat)) (x : Nat) : ∀ r, rdR W x r = (W.map fun l => disR l x r).sum
  | [] => by
    induction W with
    | nil => rfl
    | cons l W ih => simp only [rdR, List.map_cons, List.sum_cons, disR, List.countP_nil] at ih ⊢; omega
  | y :: r => by
    rw [rdR, rdR_eq W x r]
    induction W with
    | nil => rfl
    | cons l W ih =>
      simp only [rdC, List.countP_cons, List.map_cons, List.sum_cons, disR] at ih ⊢
      omega
theorem rdO_eq (W : List (List Nat)) : ∀ o, rdO W o = disN W o
  | [] => by
    induction W with
    | nil => rfl
    | cons l W ih => simp only [rdO, disN, List.map_cons, List.sum_cons, disO] at ih ⊢; omega
  | x :: r => by rw [rdO, rdO_eq W r, disN_cons, rdR_eq]

theorem mark_bd (l : List Nat) (a b : Nat) : -1 ≤ mark l a b ∧ mark l a b ≤ 1 := by
  unfold mark; split
  · omega
  · split <;> omega
theorem marg_bd (a b : Nat) : ∀ W : List (List Nat), -(W.length : Int) ≤ marg W a b ∧ marg W a b ≤ W.length
  | [] => by simp [marg]
  | l :: W => by
    have h1 := mark_bd l a b
    have h2 := marg_bd a b W
    simp only [marg, List.map_cons, List.sum_cons, List.length_cons] at h2 ⊢
    omega
theorem marg_cons (l : List Nat) (W : List (List Nat)) (a b : Nat) : marg (l :: W) a b = mark l a b + marg W a b := by simp [marg]

def ptsTo (W : List (List Nat)) (n r a : Nat) : Nat → Nat
  | 0 => 0
  | k + 1 => ptsTo W n r a k + if r = 1 then n - 1 - place (W.getD k []) a else if (W.getD k []).getD 0 0 = a then 1 else 0
/-- The first one with the most points, of the first j. -/
def bestTo (f : Nat → Nat) : Nat → Nat × Int
  | 0 => (0, -1)
  | j + 1 => if (bestTo f j).2 < (f j : Int) then (j, (f j : Int)) else bestTo f j
theorem ptsTo_bd (W : List (List Nat)) {n r : Nat} (hn : n ≤ 5) (a : Nat) : ∀ k, ptsTo W n r a k ≤ 5 * k
  | 0 => by simp [ptsTo]
  | k + 1 => by
    have := ptsTo_bd W hn a (r := r) k
    rw [ptsTo]
    split
    · omega
    · split <;> omega
theorem bestTo_bd {f : Nat → Nat} {B : Nat} (hf : ∀ a, f a ≤ B) : ∀ j, (bestTo f j).1 ≤ j ∧ -1 ≤ (bestTo f j).2 ∧ (bestTo f j).2 ≤ B
  | 0 => by simp [bestTo]
  | j + 1 => by
    have h1 := bestTo_bd hf j
    have h2 := hf j
    rw [bestTo]
    split
    · simp only; omega
    · omega

theorem pointsL_getD {n : Nat} {f : Nat → Nat} {i : Nat} (hi : i < n) : (pointsL n f).getD i 0 = (f i : Int) := by
  rw [pointsL, up_getD]
  simp [List.getD_eq_getElem?_getD, hi]
theorem pointsL_len {n : Nat} {f : Nat → Nat} : (pointsL n f).length = n := by simp [pointsL, up]
theorem bestTo_spec (f : Nat → Nat) : ∀ j, 1 ≤ j → (bestTo f j).1 < j ∧ (bestTo f j).2 = (f (bestTo f j).1 : Int) ∧ (∀ i, i < j → f i ≤ f (bestTo f j).1) ∧ ∀ i, i < (bestTo f j).1 → f i < f (bestTo f j).1
  | 0, h => by omega
  | j + 1, _ => by
    by_cases h0 : j = 0
    · subst h0
      have e : bestTo f 1 = (0, (f 0 : Int)) := by
        show (if (-1 : Int) < (f 0 : Int) then (0, (f 0 : Int)) else (0, -1)) = _
        rw [if_pos (by omega)]
      rw [e]
      refine ⟨by simp, rfl, fun i hi => ?_, fun i hi => by simp at hi⟩
      obtain rfl : i = 0 := by omega
      exact Nat.le_refl _
    · obtain ⟨h1, h2, h3, h4⟩ := bestTo_spec f j (by omega)
      by_cases hlt : (bestTo f j).2 < (f j : Int)
      · have e : bestTo f (j + 1) = (j, (f j : Int)) := by rw [bestTo, if_pos hlt]
        rw [e]
        refine ⟨by simp, rfl, fun i hi => ?_, fun i hi => ?_⟩
        · by_cases e9 : i = j
          · subst e9; exact Nat.le_refl _
          · have := h3 i (by omega); simp only; omega
        · have := h3 i hi; simp only; omega
      · have e : bestTo f (j + 1) = bestTo f j := by rw [bestTo, if_neg hlt]
        rw [e]
        refine ⟨by omega, h2, fun i hi => ?_, h4⟩
        by_cases e9 : i = j
        · subst e9; omega
        · exact h3 i (by omega)
theorem maxP_spec (l : List Int) : ∀ k, (∀ i, i < k → l.getD i 0 ≤ maxP l k) ∧ ∃ i, (i < k ∨ i = 0) ∧ maxP l k = l.getD i 0
  | 0 => ⟨fun i hi => absurd hi (by omega), 0, .inr rfl, rfl⟩
  | k + 1 => by
    obtain ⟨h1, i, h2, h3⟩ := maxP_spec l k
    rw [maxP]
    refine ⟨fun j hj => ?_, ?_⟩
    · by_cases e : j = k
      · subst e; omega
      · have := h1 j (by omega); omega
    · by_cases h : maxP l k ≤ l.getD k 0
      · exact ⟨k, .inl (by omega), by omega⟩
      · exact ⟨i, by omega, by omega⟩
theorem best_idx_eq {n : Nat} (f : Nat → Nat) (hn : 1 ≤ n) : idx (pointsL n f) (maxP (pointsL n f) n) = ((bestTo f n).1 : Int) := by
  obtain ⟨h1, h2, h3, h4⟩ := bestTo_spec f n hn
  obtain ⟨g1, i, g2, g3⟩ := maxP_spec (pointsL n f) n
  have e : maxP (pointsL n f) n = (f (bestTo f n).1 : Int) := by
    have a1 := g1 _ h1
    rw [pointsL_getD h1] at a1
    have hi : i < n := by omega
    rw [pointsL_getD hi] at g3
    have a2 := h3 i hi
    omega
  rw [e, idx, pointsL_len]
  refine fidx_found h1 (by rw [pointsL_getD h1]; simp) (fun j hj => ?_)
  rw [pointsL_getD (by omega)]
  have := h4 j hj
  exact beq_false_of_ne (by omega)
theorem firsts_pts (W : List (List Nat)) (n a : Nat) : ∀ k, firstsP W k a = ptsTo W n 0 a k
  | 0 => rfl
  | k + 1 => by
    rw [firstsP, ptsTo, if_neg (show ¬ (0 : Nat) = 1 by omega), firsts_pts W n a k]
    by_cases h : a = (W.getD k []).getD 0 0
    · rw [if_pos h, if_pos h.symm]
    · rw [if_neg h, if_neg (fun e => h e.symm)]; rfl
theorem bordaI_eq {l : List Nat} {n a : Nat} (hl : Ord l n) (ha : a < n) : ∀ i, i ≤ n → bordaI l n i a = if place l a < i then n - 1 - place l a else 0
  | 0, _ => by simp [bordaI]
  | i + 1, hi => by
    obtain ⟨hp, hg⟩ := place_lt ((hl.mem a).2 ha)
    rw [hl.len] at hp
    rw [bordaI, bordaI_eq hl ha i (by omega)]
    by_cases h : a = l.getD i 0
    · have : place l a = i := by
        have := hl.inj (place l a) i hp (by omega) (by rw [hg, ← h])
        exact this
      rw [if_pos h, this, if_neg (by omega), if_pos (by omega)]
      omega
    · rw [if_neg h]
      have : place l a ≠ i := fun e => h (by rw [← e, hg])
      by_cases h2 : place l a < i
      · rw [if_pos h2, if_pos (by omega)]
      · rw [if_neg h2, if_neg (by omega)]
theorem borda_pts {W : List (List Nat)} {v n a : Nat} (hW : BOk W v n) (ha : a < n) : ∀ k, k ≤ v → bordaP W n k a = ptsTo W n 1 a k
  | 0, _ => rfl
  | k + 1, hk => by
    have hl := hW.rows k (by omega)
    have hp := (place_lt ((hl.mem a).2 ha)).1
    rw [hl.len] at hp
    rw [bordaP, ptsTo, if_pos rfl, borda_pts hW ha k (by omega), bordaI_eq hl ha n (Nat.le_refl _), if_pos hp]
theorem bestTo_congr {f g : Nat → Nat} : ∀ n, (∀ a, a < n → f a = g a) → bestTo f n = bestTo g n
  | 0, _ => rfl
  | n + 1, h => by rw [bestTo, bestTo, bestTo_congr n (fun a ha => h a (by omega)), h n (by omega)]
end Go.Proofs.Ytejijddfepgnkaa
