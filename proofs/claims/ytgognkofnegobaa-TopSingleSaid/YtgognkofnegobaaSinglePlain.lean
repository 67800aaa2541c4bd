/-
  The committee of one candidate, by the first places, is the winner by first places.
-/
import Derived.Test.YtgognkofnegobaaRepPlain
import Derived.Test.YtgognkofnegobaaVPlain
namespace Go.Proofs.Ytgognkofnegobaa
open Go.RowKit
set_option linter.unusedVariables false
set_option linter.unusedSimpArgs false

theorem comF_first (S : List Nat) (K : Nat) : ∀ i t : Nat, comF S K i = t → ∀ s, s < t → cn s = K → scN S s < scN S t
  | 0, t, h => by simp only [comF] at h; omega
  | i + 1, t, h => by
    intro s hs hK
    have h9 := comF_st S K i
    simp only [comF] at h
    split at h
    · next h1 =>
      obtain rfl : t = i := by omega
      rcases h9 with ⟨_, h2⟩ | ⟨t', h2, h3, h4, h5⟩
      · exact absurd hK (h2 s hs)
      · rw [h2, Int.toNat_natCast] at h1
        have := h5 s hs hK
        rcases h1.2 with h8 | h8 <;> omega
    · exact comF_first S K i t h s hs hK
theorem one_bit : ∀ M : Fin 256, cn M.val = 1 → ∃ x : Fin 8, M.val = 2 ^ x.val := by decide +kernel
theorem part_two : ∀ a b : Fin 5, part (cn (2 ^ a.val &&& 2 ^ b.val)) = if a.val = b.val then 840 else 0 := by decide +kernel
theorem cn_two : ∀ x : Fin 8, cn (2 ^ x.val) = 1 := by decide +kernel
/-- Everybody approves of whom they like best, alone. -/
def firstS (W : List (List Nat)) (v : Nat) : List Nat := (List.range v).map fun i => 2 ^ ((W.getD i []).getD 0 0)
theorem firstS_get {W : List (List Nat)} {v i : Nat} (hi : i < v) : (firstS W v).getD i 0 = 2 ^ ((W.getD i []).getD 0 0) := by
  simp [firstS, List.getD_eq_getElem?_getD, hi]
theorem firstS_len (W : List (List Nat)) (v : Nat) : (firstS W v).length = v := by simp [firstS]
theorem firstS_succ (W : List (List Nat)) (v : Nat) : firstS W (v + 1) = firstS W v ++ [2 ^ ((W.getD v []).getD 0 0)] := by simp [firstS, List.range_succ]
theorem firstS_ok {W : List (List Nat)} {v n : Nat} (hW : BOk W v n) : AOk (firstS W v) n 1 v :=
  ⟨hW.npos, by have := hW.nle; omega, Nat.le_refl _, hW.npos, firstS_len W v, hW.pos, hW.le, fun i hi => by
    rw [firstS_get hi]
    exact Nat.pow_lt_pow_right (by decide) ((hW.rows i hi).getD_lt hW.npos)⟩
theorem firstS_app {W : List (List Nat)} {v n : Nat} (hW : BOk W v n) : appB (n : Int) 1 (up (firstS W v)) = true := by
  have h8 := hW.nle
  have h1 := hW.npos
  have h9 := hW.le
  have hp := hW.pos
  rw [appB_iff, up_length, firstS_len]
  refine ⟨⟨by omega, by omega, by omega, by omega, by omega, by omega⟩, fun s hs => ?_⟩
  obtain ⟨i, hi, rfl⟩ := List.getElem_of_mem hs
  have hiv : i < v := by rw [up_length, firstS_len] at hi; exact hi
  have hg : (up (firstS W v)).getD i 0 = (up (firstS W v))[i] := by rw [List.getD_eq_getElem?_getD, List.getElem?_eq_getElem hi]; rfl
  have hlt := (firstS_ok hW).lt i hiv
  rw [← hg, up_getD, Int.toNat_natCast]
  have e : ((2 ^ n : Nat) : Int) = (2 : Int) ^ n := by push_cast; rfl
  omega
theorem sc_first {W : List (List Nat)} {v n x : Nat} (hW : BOk W v n) (hx : x < n) : ∀ k, k ≤ v → scTo (firstS W v) (2 ^ x) k = 840 * firstsP W k x
  | 0, _ => rfl
  | k + 1, hk => by
    have hb := (hW.rows k (by omega)).getD_lt hW.npos
    have h5 := hW.nle
    simp only [scTo, firstsP]
    rw [sc_first hW hx k (by omega), firstS_get (by omega), part_two ⟨_, by omega⟩ ⟨x, by omega⟩]
    simp only
    by_cases e : (W.getD k []).getD 0 0 = x
    · rw [if_pos e, if_pos e.symm]; omega
    · rw [if_neg e, if_neg (fun h => e h.symm)]; omega
theorem single_eq {W : List (List Nat)} {v n : Nat} (hW : BOk W v n) : ∃ t : Nat, t < n ∧ firstsN W v n = t ∧ comN (firstS W v) n 1 = (2 ^ t : Nat) := by
  have hn5 := hW.nle
  obtain ⟨h1, h2, h3, h4⟩ := bestTo_spec (firstsP W v) n hW.npos
  refine ⟨(bestTo (firstsP W v) n).1, h1, ?_, ?_⟩
  · rw [firstsN, best_idx_eq _ hW.npos]
  · have hsc : ∀ x, x < n → scN (firstS W v) (2 ^ x) = 840 * firstsP W v x := fun x hx => by
      rw [scN, firstS_len]; exact sc_first hW hx v (Nat.le_refl _)
    have hlt : ∀ x, x < n → 2 ^ x < 2 ^ n := fun x hx => Nat.pow_lt_pow_right (by decide) hx
    have hp : 2 ^ n ≤ 2 ^ 5 := Nat.pow_le_pow_right (by decide) hn5
    rcases comF_st (firstS W v) 1 (2 ^ n) with ⟨g1, g2⟩ | ⟨M, g1, g2, g3, g4⟩
    · exact absurd (cn_two ⟨0, by decide⟩) (g2 _ (hlt 0 hW.npos))
    · obtain ⟨⟨x, hx8⟩, hx⟩ := one_bit ⟨M, by omega⟩ g3
      simp only at hx
      subst hx
      have hxn : x < n := (Nat.pow_lt_pow_iff_right (by decide)).1 g2
      have hfirst := comF_first (firstS W v) 1 (2 ^ n) (2 ^ x) g1
      generalize (bestTo (firstsP W v) n).1 = t at *
      have hxt : x = t := by
        rcases (by omega : x < t ∨ x = t ∨ t < x) with h | h | h
        · have a1 := h4 x h
          have a2 := g4 (2 ^ t) (hlt t h1) (cn_two ⟨t, by omega⟩)
          rw [hsc t h1, hsc x hxn] at a2
          omega
        · exact h
        · have a1 := hfirst (2 ^ t) (Nat.pow_lt_pow_right (by decide) h) (cn_two ⟨t, by omega⟩)
          rw [hsc t h1, hsc x hxn] at a1
          have := h3 x hxn
          omega
      rw [comN, g1, hxt]
end Go.Proofs.Ytgognkofnegobaa
