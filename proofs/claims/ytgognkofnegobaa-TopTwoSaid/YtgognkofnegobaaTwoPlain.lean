/-
  Two candidates and an odd number of ballots, plain: all rules have the same winner, and no lie brings anything.
-/
import Derived.Test.YtgognkofnegobaaVPlain
import Derived.Test.YtgognkofnegobaaWidPlain
import Derived.Test.YtgognkofnegobaaMargEq
import Derived.Test.YtgognkofnegobaaOrdPlain
import Derived.Test.YtgognkofnegobaaLieV
namespace Go.Proofs.Ytgognkofnegobaa
open Go.RowKit
set_option linter.unusedVariables false
set_option linter.unusedSimpArgs false

/-- Who has more ballots. -/
def two (W : List (List Nat)) : Nat := if rdC W 0 1 < rdC W 1 0 then 0 else 1
theorem ord_two {l : List Nat} (h : Ord l 2) : l = [0, 1] ∨ l = [1, 0] := by
  have hl := h.len
  match l, hl with
  | [a, b], _ =>
    have ha := (h.mem a).1 (by simp)
    have hb := (h.mem b).1 (by simp)
    have h0 : a = 0 ∨ b = 0 := by have := (h.mem 0).2 (by omega); simp at this; omega
    have h1 : a = 1 ∨ b = 1 := by have := (h.mem 1).2 (by omega); simp at this; omega
    rcases h0 with rfl | rfl
    · left; congr; omega
    · right; congr; omega
theorem two_split {W : List (List Nat)} {v : Nat} (hW : BOk W v 2) : rdC W 0 1 + rdC W 1 0 = v ∧ marg W 0 1 = (rdC W 1 0 : Int) - rdC W 0 1 ∧ marg W 1 0 = (rdC W 0 1 : Int) - rdC W 1 0 := by
  have hWo : ∀ l ∈ W, Ord l 2 := fun l hl => by
    obtain ⟨i, hi, rfl⟩ := List.getElem_of_mem hl
    have := hW.rows i (by rw [← hW.len]; exact hi)
    rwa [List.getD_eq_getElem?_getD, List.getElem?_eq_getElem hi] at this
  have h1 := rdC_marg hWo (a := 0) (b := 1) (by omega) (by omega) (by omega)
  have h2 := rdC_marg hWo (a := 1) (b := 0) (by omega) (by omega) (by omega)
  rw [hW.len] at h1 h2
  exact ⟨h1.1, h1.2, h2.2⟩
theorem pts_two {W : List (List Nat)} {v r : Nat} (hW : BOk W v 2) (hr : r ≤ 1) {a : Nat} (ha : a ≤ 1) : ∀ k, k ≤ v → ptsTo W 2 r a k = rdC (W.take k) (1 - a) a
  | 0, _ => by simp [ptsTo, rdC]
  | k + 1, hk => by
    have hl := hW.rows k (by omega)
    have hkl : k < W.length := by rw [hW.len]; omega
    rw [ptsTo, pts_two hW hr ha k (by omega), rdC, rdC, List.take_succ_eq_append_getElem hkl, List.countP_append]
    congr 1
    have e : W[k] = W.getD k [] := by rw [List.getD_eq_getElem?_getD, List.getElem?_eq_getElem hkl]; rfl
    rw [e]
    rcases (by omega : r = 0 ∨ r = 1) with rfl | rfl <;> rcases (by omega : a = 0 ∨ a = 1) with rfl | rfl <;> rcases ord_two hl with h | h <;> rw [h] <;> decide
theorem best_two (f : Nat → Nat) : (bestTo f 2).1 = if f 0 < f 1 then 1 else 0 := by
  have e : bestTo f 1 = (0, (f 0 : Int)) := by
    show (if (-1 : Int) < (f 0 : Int) then (0, (f 0 : Int)) else (0, -1)) = _
    rw [if_pos (by omega)]
  show (if (bestTo f 1).2 < (f 1 : Int) then (1, (f 1 : Int)) else bestTo f 1).1 = _
  rw [e]
  by_cases h : f 0 < f 1
  · rw [if_pos h, if_pos (by simp only; omega)]
  · rw [if_neg h, if_neg (by simp only; omega)]
theorem win_two {W : List (List Nat)} {v r : Nat} (hW : BOk W v 2) (hodd : v % 2 = 1) (hr : r ≤ 3) : winN W v 2 r = (two W : Nat) := by
  obtain ⟨h1, h2, h3⟩ := two_split hW
  have h01 : r ≤ 1 → winN W v 2 r = ((bestTo (fun a => ptsTo W 2 r a v) 2).1 : Int) := fun h => by
    rcases (by omega : r = 0 ∨ r = 1) with rfl | rfl
    · rw [winN, if_pos rfl, firstsN, best_idx_eq _ hW.npos, bestTo_congr 2 (fun a ha => firsts_pts W 2 a v)]
    · rw [winN, if_neg (by omega), if_pos rfl, bordaN, best_idx_eq _ hW.npos, bestTo_congr 2 (fun a ha => borda_pts hW ha v (Nat.le_refl _))]
  rcases (by omega : r ≤ 1 ∨ r = 2 ∨ r = 3) with h | rfl | rfl
  · rw [h01 h, best_two, pts_two hW h (by omega) v (Nat.le_refl _), pts_two hW h (by omega) v (Nat.le_refl _), List.take_of_length_le (by rw [hW.len]; omega)]
    unfold two
    simp only [Nat.sub_self, Nat.sub_zero]
    by_cases h9 : rdC W 0 1 < rdC W 1 0
    · rw [if_pos h9, if_neg (by omega)]
    · rw [if_neg h9, if_pos (by omega)]
  · rw [winN, if_neg (by omega), if_neg (by omega), if_pos rfl, pathsN]
    have hm : ∀ a b, a < 2 → b < 2 → widM 2 (margM W) a b = marg W a b := fun a b ha hb => by
      rw [widM_phases]
      have hp : ∀ M : Mat, ∀ k, k < 2 → phase 2 k M a b = M a b := fun M k hk => by
        unfold phase; rw [if_neg]; omega
      show phase 2 1 (phase 2 0 (margM W)) a b = _
      rw [hp _ 1 (by omega), hp _ 0 (by omega), margM_eq hW ha hb]
    have hs : ∀ a, a < 2 → (strongB (widM 2 (margM W)) 2 a = true ↔ ∀ c, c < 2 → ¬ marg W a c < marg W c a) := fun a ha => by
      rw [strongB, Bool.not_eq_true', decide_eq_false_iff_not, fidx_nonneg]
      constructor
      · intro h c hc h9
        exact h ⟨c, hc, decide_eq_true (by rw [hm a c ha hc, hm c a hc ha]; exact h9)⟩
      · rintro h ⟨c, hc, h9⟩
        rw [decide_eq_true_eq, hm a c ha hc, hm c a hc ha] at h9
        exact h c hc h9
    unfold two
    by_cases h9 : rdC W 0 1 < rdC W 1 0
    · rw [if_pos h9]
      refine fidx_found (by omega) ((hs 0 (by omega)).2 fun c hc => ?_) (fun j hj => by omega)
      rcases (by omega : c = 0 ∨ c = 1) with rfl | rfl <;> omega
    · rw [if_neg h9]
      refine fidx_found (by omega) ((hs 1 (by omega)).2 fun c hc => ?_) (fun j hj => ?_)
      · rcases (by omega : c = 0 ∨ c = 1) with rfl | rfl <;> omega
      · obtain rfl : j = 0 := by omega
        cases h : strongB (widM 2 (margM W)) 2 0 with
        | false => rfl
        | true => exact absurd ((hs 0 (by omega)).1 h 1 (by omega)) (by omega)
  · rw [winN, if_neg (by omega), if_neg (by omega), if_neg (by omega)]
    have ho := (kemO_spec W 2).1
    have d0 : disN W [0, 1] = rdC W 0 1 := by rw [← rdO_eq]; simp [rdO, rdR]
    have d1 : disN W [1, 0] = rdC W 1 0 := by rw [← rdO_eq]; simp [rdO, rdR]
    have k0 := kemO_le W (o := [0, 1]) (n := 2) ⟨rfl, fun g => by simp; omega⟩
    have k1 := kemO_le W (o := [1, 0]) (n := 2) ⟨rfl, fun g => by simp; omega⟩
    unfold two
    rcases ord_two ho with h | h
    · rw [h] at k0 k1 ⊢
      rw [if_pos (by omega)]; rfl
    · rw [h] at k0 k1 ⊢
      rw [if_neg (by omega)]; rfl
theorem countP_set {p : List Nat → Bool} : ∀ (W : List (List Nat)) (i : Nat) (x : List Nat), i < W.length → (W.set i x).countP p + (if p (W.getD i []) then 1 else 0) = W.countP p + if p x then 1 else 0
  | [], i, x, h => by simp at h
  | l :: W, 0, x, _ => by
    simp only [List.set_cons_zero, List.countP_cons, List.getD_cons_zero]
    omega
  | l :: W, i + 1, x, h => by
    have ih := countP_set (p := p) W i x (by simpa using h)
    simp only [List.set_cons_succ, List.countP_cons, List.getD_cons_succ] at ih ⊢
    omega
theorem lie_two {W : List (List Nat)} {v r : Nat} (hW : BOk W v 2) (hodd : v % 2 = 1) (hr : r ≤ 3) : lieN W v 2 r = none := by
  refine lieN_none fun i hi => List.find?_eq_none.2 fun x hx => ?_
  have hxo := mem_ordsN.1 hx
  have hW2 : BOk (W.set i x) v 2 := bset_ok hW hxo
  rw [gains, win_two hW hodd hr, win_two hW2 hodd hr, decide_eq_true_eq]
  have c1 := countP_set (p := fun l => decide (place l 1 < place l 0)) W i x (by rw [hW.len]; exact hi)
  have c2 := countP_set (p := fun l => decide (place l 0 < place l 1)) W i x (by rw [hW.len]; exact hi)
  have s1 := (two_split hW).1
  have s2 := (two_split hW2).1
  have e1 : rdC W 0 1 = W.countP fun l => decide (place l 1 < place l 0) := rfl
  have e2 : rdC W 1 0 = W.countP fun l => decide (place l 0 < place l 1) := rfl
  have e3 : rdC (W.set i x) 0 1 = (W.set i x).countP fun l => decide (place l 1 < place l 0) := rfl
  have e4 : rdC (W.set i x) 1 0 = (W.set i x).countP fun l => decide (place l 0 < place l 1) := rfl
  rw [← e1, ← e3] at c1
  rw [← e2, ← e4] at c2
  have q0 : decide (place [0, 1] 0 < place [0, 1] 1) = true := by decide
  have q1 : decide (place [0, 1] 1 < place [0, 1] 0) = false := by decide
  have q2 : decide (place [1, 0] 0 < place [1, 0] 1) = false := by decide
  have q3 : decide (place [1, 0] 1 < place [1, 0] 0) = true := by decide
  have i0 : idx (up [0, 1]) ((0 : Nat) : Int) = 0 := by decide
  have i1 : idx (up [0, 1]) ((1 : Nat) : Int) = 1 := by decide
  have i2 : idx (up [1, 0]) ((0 : Nat) : Int) = 1 := by decide
  have i3 : idx (up [1, 0]) ((1 : Nat) : Int) = 0 := by decide
  unfold two
  rcases ord_two (hW.rows i hi) with h | h <;> rcases ord_two hxo with hx' | hx' <;> rw [h] at c1 c2 ⊢ <;> rw [hx'] at c1 c2 s2 ⊢ <;> simp only [q0, q1, q2, q3, if_true, Bool.false_eq_true, if_false] at c1 c2 <;> split <;> split <;> (first | (rw [i0, i1]; omega) | (rw [i1, i0]; omega) | (rw [i2, i3]; omega) | (rw [i3, i2]; omega) | omega)
end Go.Proofs.Ytgognkofnegobaa
