/-
  The reference's winners are the program's.
-/
import Derived.Test.YtejijddfepgnkaaWidEq
import Derived.Test.YtejijddfepgnkaaRefWin
namespace Go.Proofs.Ytejijddfepgnkaa
open Go.RowKit
set_option linter.unusedVariables false
set_option linter.unusedSimpArgs false

theorem pointsL_getD {n : Nat} {f : Nat → Nat} {i : Nat} (hi : i < n) : (pointsL n f).getD i 0 = (f i : Int) := by
  rw [pointsL, up_getD]
  simp [List.getD_eq_getElem?_getD, hi]
theorem pointsL_len {n : Nat} {f : Nat → Nat} : (pointsL n f).length = n := by simp [pointsL, up]
theorem bestTo_spec (f : Nat → Nat) : ∀ j, 1 ≤ j → (bestTo f j).1 < j ∧ (bestTo f j).2 = (f (bestTo f j).1 : Int) ∧ (∀ i, i < j → f i ≤ f (bestTo f j).1) ∧ ∀ i, i < (bestTo f j).1 → f i < f (bestTo f j).1
  | 0, h => by omega
  | j + 1, _ => by
    by_cases h0 : j = 0
    · subst h0
      have e : bestTo f 1 = (0, (f 0 : Int)) := by
        show (if (-1 : Int) < (f 0 : Int) then (0, (f 0 : Int)) else (0, -1)) = _
        rw [if_pos (by omega)]
      rw [e]
      refine ⟨by simp, rfl, fun i hi => ?_, fun i hi => by simp at hi⟩
      obtain rfl : i = 0 := by omega
      exact Nat.le_refl _
    · obtain ⟨h1, h2, h3, h4⟩ := bestTo_spec f j (by omega)
      by_cases hlt : (bestTo f j).2 < (f j : Int)
      · have e : bestTo f (j + 1) = (j, (f j : Int)) := by rw [bestTo, if_pos hlt]
        rw [e]
        refine ⟨by simp, rfl, fun i hi => ?_, fun i hi => ?_⟩
        · by_cases e9 : i = j
          · subst e9; exact Nat.le_refl _
          · have := h3 i (by omega); simp only; omega
        · have := h3 i hi; simp only; omega
      · have e : bestTo f (j + 1) = bestTo f j := by rw [bestTo, if_neg hlt]
        rw [e]
        refine ⟨by omega, h2, fun i hi => ?_, h4⟩
        by_cases e9 : i = j
        · subst e9; omega
        · exact h3 i (by omega)
theorem maxP_spec (l : List Int) : ∀ k, (∀ i, i < k → l.getD i 0 ≤ maxP l k) ∧ ∃ i, (i < k ∨ i = 0) ∧ maxP l k = l.getD i 0
  | 0 => ⟨fun i hi => absurd hi (by omega), 0, .inr rfl, rfl⟩
  | k + 1 => by
    obtain ⟨h1, i, h2, h3⟩ := maxP_spec l k
    rw [maxP]
    refine ⟨fun j hj => ?_, ?_⟩
    · by_cases e : j = k
      · subst e; omega
      · have := h1 j (by omega); omega
    · by_cases h : maxP l k ≤ l.getD k 0
      · exact ⟨k, .inl (by omega), by omega⟩
      · exact ⟨i, by omega, by omega⟩
theorem best_idx_eq {n : Nat} (f : Nat → Nat) (hn : 1 ≤ n) : idx (pointsL n f) (maxP (pointsL n f) n) = ((bestTo f n).1 : Int) := by
  obtain ⟨h1, h2, h3, h4⟩ := bestTo_spec f n hn
  obtain ⟨g1, i, g2, g3⟩ := maxP_spec (pointsL n f) n
  have e : maxP (pointsL n f) n = (f (bestTo f n).1 : Int) := by
    have a1 := g1 _ h1
    rw [pointsL_getD h1] at a1
    have hi : i < n := by omega
    rw [pointsL_getD hi] at g3
    have a2 := h3 i hi
    omega
  rw [e, idx, pointsL_len]
  refine fidx_found h1 (by rw [pointsL_getD h1]; simp) (fun j hj => ?_)
  rw [pointsL_getD (by omega)]
  have := h4 j hj
  exact beq_false_of_ne (by omega)
theorem firsts_pts (W : List (List Nat)) (n a : Nat) : ∀ k, firstsP W k a = ptsTo W n 0 a k
  | 0 => rfl
  | k + 1 => by
    rw [firstsP, ptsTo, if_neg (show ¬ (0 : Nat) = 1 by omega), firsts_pts W n a k]
    by_cases h : a = (W.getD k []).getD 0 0
    · rw [if_pos h, if_pos h.symm]
    · rw [if_neg h, if_neg (fun e => h e.symm)]; rfl
theorem bordaI_eq {l : List Nat} {n a : Nat} (hl : Ord l n) (ha : a < n) : ∀ i, i ≤ n → bordaI l n i a = if place l a < i then n - 1 - place l a else 0
  | 0, _ => by simp [bordaI]
  | i + 1, hi => by
    obtain ⟨hp, hg⟩ := place_lt ((hl.mem a).2 ha)
    rw [hl.len] at hp
    rw [bordaI, bordaI_eq hl ha i (by omega)]
    by_cases h : a = l.getD i 0
    · have : place l a = i := by
        have := hl.inj (place l a) i hp (by omega) (by rw [hg, ← h])
        exact this
      rw [if_pos h, this, if_neg (by omega), if_pos (by omega)]
      omega
    · rw [if_neg h]
      have : place l a ≠ i := fun e => h (by rw [← e, hg])
      by_cases h2 : place l a < i
      · rw [if_pos h2, if_pos (by omega)]
      · rw [if_neg h2, if_neg (by omega)]
theorem borda_pts {W : List (List Nat)} {v n a : Nat} (hW : BOk W v n) (ha : a < n) : ∀ k, k ≤ v → bordaP W n k a = ptsTo W n 1 a k
  | 0, _ => rfl
  | k + 1, hk => by
    have hl := hW.rows k (by omega)
    have hp := (place_lt ((hl.mem a).2 ha)).1
    rw [hl.len] at hp
    rw [bordaP, ptsTo, if_pos rfl, borda_pts hW ha k (by omega), bordaI_eq hl ha n (Nat.le_refl _), if_pos hp]
theorem strongTo_iff {W : List (List Nat)} {n a : Nat} : ∀ m, strongTo W n a m = true ↔ ∀ j, j < m → a = j ∨ widN W n j a ≤ widN W n a j
  | 0 => by simp [strongTo]
  | m + 1 => by
    rw [strongTo, Bool.and_eq_true, strongTo_iff m, Bool.or_eq_true, decide_eq_true_eq, decide_eq_true_eq]
    constructor
    · rintro ⟨h1, h2⟩ j hj
      by_cases e : j = m
      · subst e; exact h2
      · exact h1 j (by omega)
    · exact fun h => ⟨fun j hj => h j (by omega), h m (by omega)⟩
theorem strong_eq {W : List (List Nat)} {v n a : Nat} (hW : BOk W v n) (ha : a < n) : strongTo W n a n = strongB (widM n (margM W)) n a := by
  rw [Bool.eq_iff_iff, strongTo_iff, strongB, Bool.not_eq_true', decide_eq_false_iff_not, fidx_nonneg]
  constructor
  · rintro h ⟨c, hc, h2⟩
    rw [decide_eq_true_eq] at h2
    rcases h c hc with e | h3
    · subst e; omega
    · by_cases e : a = c
      · subst e; omega
      · rw [widM_eq hW ha hc e, widM_eq hW hc ha (fun e' => e e'.symm)] at h2; omega
  · intro h j hj
    by_cases e : a = j
    · exact .inl e
    · right
      rcases Int.lt_or_le (widN W n a j) (widN W n j a) with h3 | h3
      · exact absurd ⟨j, hj, decide_eq_true (by rw [widM_eq hW ha hj e, widM_eq hW hj ha (fun e' => e e'.symm)]; exact h3)⟩ h
      · exact h3

theorem bestTo_congr {f g : Nat → Nat} : ∀ n, (∀ a, a < n → f a = g a) → bestTo f n = bestTo g n
  | 0, _ => rfl
  | n + 1, h => by rw [bestTo, bestTo, bestTo_congr n (fun a ha => h a (by omega)), h n (by omega)]
/-- The reference's Win. -/
theorem refWin_any (A : Option Addr) (v n c r : Nat) (W : List (List Nat)) (w : World) (hr : r ≤ 3) (hW : BOk W v n) (hA : RowsA w w.heap.size A (upp W)) :
    Calls Try.prog 36 #[.slice A v c, .int .i64 (r : Nat)] w fun e w' => e = .returned (.int .i64 (winN W v n r)) ∧ Below w.heap.size w w' := by
  rcases (by omega : r = 0 ∨ r = 1 ∨ r = 2 ∨ r = 3) with rfl | rfl | rfl | rfl
  · refine (refWin01_any A v n c 0 W w (by omega) hW hA).mono ?_
    rintro e w' ⟨rfl, rfl⟩
    refine ⟨?_, Below.refl _ _⟩
    rw [winN, if_pos rfl, firstsN, best_idx_eq _ hW.npos, bestTo_congr n (fun a ha => firsts_pts W n a v)]
  · refine (refWin01_any A v n c 1 W w (by omega) hW hA).mono ?_
    rintro e w' ⟨rfl, rfl⟩
    refine ⟨?_, Below.refl _ _⟩
    rw [winN, if_neg (by omega), if_pos rfl, bordaN, best_idx_eq _ hW.npos, bestTo_congr n (fun a ha => borda_pts hW ha v (Nat.le_refl _))]
  · refine (refWin2_any A v n c W w hW hA).mono ?_
    rintro e w' ⟨rfl, h⟩
    refine ⟨?_, h⟩
    rw [winN, if_neg (by omega), if_neg (by omega), if_pos rfl, pathsN, fidx_congr (fun a ha => strong_eq hW ha)]
  · refine (refWin3_any A v n c W w hW hA).mono ?_
    rintro e w' ⟨rfl, h⟩
    refine ⟨?_, h⟩
    rw [winN, if_neg (by omega), if_neg (by omega), if_neg (by omega)]
end Go.Proofs.Ytejijddfepgnkaa
