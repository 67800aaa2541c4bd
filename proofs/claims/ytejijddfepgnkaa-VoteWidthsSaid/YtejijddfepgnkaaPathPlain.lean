/-
  What Path finds: the first shortest path as wide, and that there is one.
-/
import Derived.Test.YtejijddfepgnkaaGrow
import Derived.Test.YtejijddfepgnkaaWidEq
import Derived.Test.YtejijddfepgnkaaStrPlain
namespace Go.Proofs.Ytejijddfepgnkaa
open Go.RowKit
set_option linter.unusedVariables false
set_option linter.unusedSimpArgs false

theorem least_nat {P : Nat → Prop} : ∀ n, P n → ∃ m, m ≤ n ∧ P m ∧ ∀ k, k < m → ¬ P k := by
  intro n
  induction n using Nat.strongRecOn with
  | _ n ih =>
    intro h
    by_cases h1 : ∃ k, k < n ∧ P k
    · obtain ⟨k, hk, hp⟩ := h1
      obtain ⟨m, h2, h3, h4⟩ := ih k hk hp
      exact ⟨m, by omega, h3, h4⟩
    · exact ⟨n, Nat.le_refl _, h, fun k hk hp => h1 ⟨k, hk, hp⟩⟩
section
variable {M : Mat} {n c : Nat} {wd : Int}
theorem getD_app_lt {p t : List Nat} {j : Nat} (h : j < p.length) : (p ++ t).getD j 0 = p.getD j 0 := by
  simp [List.getD_eq_getElem?_getD, List.getElem?_append_left h]
theorem getD_app_at {p t : List Nat} {x : Nat} : (p ++ x :: t).getD p.length 0 = x := by
  simp [List.getD_eq_getElem?_getD]
theorem stp_snoc {R : Nat → Nat → Prop} {p : List Nat} {x : Nat} (hp : 1 ≤ p.length) (h : Stp R p) (hx : R (p.getD (p.length - 1) 0) x) : Stp R (p ++ [x]) := by
  rw [stp_iff] at h ⊢
  intro j hj
  rw [List.length_append, List.length_singleton] at hj
  rcases (by omega : j + 1 < p.length ∨ j + 1 = p.length) with h1 | h1
  · rw [getD_app_lt (by omega), getD_app_lt h1]; exact h j h1
  · rw [getD_app_lt (by omega), h1, getD_app_at, show j = p.length - 1 from by omega]; exact hx
/-- What the search returns. -/
structure PathOk (M : Mat) (n c : Nat) (wd : Int) (ln a : Nat) (q : List Nat) : Prop where
  nd : q.Nodup
  lt : ∀ y ∈ q, y < n
  stp : Stp (fun x y => wd ≤ M x y) q
  len : q.length = ln
  first : q.getD 0 0 = a
  last : q.getD (ln - 1) 0 = c
theorem pthF_sound : ∀ (d : Nat) (p q : List Nat), 1 ≤ p.length → pthF M n c wd d p = some q → p.Nodup → (∀ y ∈ p, y < n) → Stp (fun x y => wd ≤ M x y) p → PathOk M n c wd (p.length + d) (p.getD 0 0) q
  | 0, p, q, hp, h, h1, h2, h3 => by
    simp only [pthF] at h
    split at h
    · next hc =>
      injection h with h
      subst h
      exact ⟨h1, h2, h3, rfl, rfl, hc⟩
    · cases h
  | d + 1, p, q, hp, h, h1, h2, h3 => by
    simp only [pthF] at h
    obtain ⟨x, hx, hf⟩ := List.exists_of_findSome?_eq_some h
    split at hf
    · cases hf
    · next hc =>
      have hxp : x ∉ p := fun h => hc (.inl h)
      have hxw : wd ≤ M (p.getD (p.length - 1) 0) x := by
        have : ¬ M (p.getD (p.length - 1) 0) x < wd := fun h => hc (.inr h)
        omega
      have := pthF_sound d (p ++ [x]) q (by simp) hf (by
        rw [List.nodup_append]
        exact ⟨h1, by simp, fun a ha b hb => by rw [List.mem_singleton] at hb; subst hb; intro e; subst e; exact hxp ha⟩) (fun y hy => by
          rcases List.mem_append.1 hy with h9 | h9
          · exact h2 y h9
          · rw [List.mem_singleton] at h9; subst h9; exact List.mem_range.1 hx) (stp_snoc hp h3 hxw)
      rw [List.length_append, List.length_singleton, getD_app_lt (by omega), show p.length + 1 + d = p.length + (d + 1) from by omega] at this
      exact this
theorem pthF_some : ∀ (d : Nat) (p t : List Nat), 1 ≤ p.length → t.length = d → (p ++ t).Nodup → (∀ y ∈ p ++ t, y < n) → Stp (fun x y => wd ≤ M x y) (p ++ t) → (p ++ t).getD (p.length + d - 1) 0 = c → pthF M n c wd d p ≠ none
  | 0, p, t, hp, ht, h1, h2, h3, h4 => by
    obtain rfl : t = [] := List.length_eq_zero_iff.1 ht
    rw [List.append_nil, Nat.add_zero] at h4
    simp only [pthF]
    rw [if_pos h4]
    simp
  | d + 1, p, x :: t, hp, ht, h1, h2, h3, h4 => by
    simp only [pthF]
    intro hno
    rw [List.findSome?_eq_none_iff] at hno
    have hx := hno x (List.mem_range.2 (h2 x (by simp)))
    have hxp : x ∉ p := fun h => by
      rw [List.nodup_append] at h1
      exact h1.2.2 x h x (by simp) rfl
    have hxw : wd ≤ M (p.getD (p.length - 1) 0) x := by
      have h9 := stp_iff.1 h3 (p.length - 1) (by simp only [List.length_append, List.length_cons]; omega)
      rw [getD_app_lt (by omega), show p.length - 1 + 1 = p.length from by omega, getD_app_at] at h9
      exact h9
    rw [if_neg (fun h => by rcases h with h | h; exact hxp h; omega)] at hx
    have e : p ++ x :: t = (p ++ [x]) ++ t := by simp
    rw [e] at h1 h2 h3 h4
    refine pthF_some d (p ++ [x]) t (by simp) (by simpa using ht) h1 h2 h3 ?_ hx
    rw [List.length_append, List.length_singleton, show p.length + 1 + d - 1 = p.length + (d + 1) - 1 from by omega]
    exact h4
end
/-- There is a path as wide; the first length at which one is found. -/
theorem path_ex {M : Mat} {n a c : Nat} (ha : a < n) (hc : c < n) (hac : a ≠ c) :
    ∃ L q, 2 ≤ L ∧ L ≤ n ∧ pthF M n c (widM n M a c) (L - 1) [a] = some q ∧ (∀ k, 2 ≤ k → k < L → pthF M n c (widM n M a c) (k - 1) [a] = none) ∧ PathOk M n c (widM n M a c) L a q := by
  obtain ⟨l, h1, h2⟩ := phases_walk M n (Nat.le_refl _) a c ha hc
  rw [← widM_phases] at h1
  obtain ⟨l', g1, g2, g3, g4⟩ := walk_path (n := n) (l ++ [c]) a h1 (fun x hx => by
    rcases List.mem_cons.1 hx with rfl | hx
    · exact ha
    · rcases List.mem_append.1 hx with h9 | h9
      · exact h2 x h9
      · rw [List.mem_singleton] at h9; subst h9; exact hc)
  have hlast : (a :: l').getLast? = some c := by rw [g3]; simp [List.getLast?_cons]
  have hlen : (a :: l').length ≤ n := nodup_le n _ g2 g4
  have hl1 : 1 ≤ l'.length := by
    cases l' with
    | nil => simp at hlast; exact absurd hlast hac
    | cons x l => simp
  have hgl : (a :: l').getD l'.length 0 = c := by
    have := getLast_getD (l := a :: l') (k := l'.length + 1) (by simp) (by omega)
    rw [hlast] at this
    injection this with this
    exact this.symm
  obtain ⟨L, g5, ⟨g6, g7⟩, g8⟩ := least_nat (P := fun L => 2 ≤ L ∧ pthF M n c (widM n M a c) (L - 1) [a] ≠ none) (l'.length + 1) ⟨by omega, pthF_some l'.length [a] l' (by simp) rfl g2 g4 g1 (by
    show (a :: l').getD (1 + l'.length - 1) 0 = c
    rw [show 1 + l'.length - 1 = l'.length from by omega]; exact hgl)⟩
  cases hq : pthF M n c (widM n M a c) (L - 1) [a] with
  | none => exact absurd hq g7
  | some q =>
    refine ⟨L, q, g6, by rw [List.length_cons] at hlen; omega, hq, fun k hk hkL => ?_, ?_⟩
    · cases hk2 : pthF M n c (widM n M a c) (k - 1) [a] with
      | none => rfl
      | some q' => exact absurd ⟨hk, by rw [hk2]; simp⟩ (g8 k hkL)
    · have := pthF_sound (L - 1) [a] q (by simp) hq (by simp) (fun y hy => by rw [List.mem_singleton] at hy; subst hy; exact ha) (by rw [stp_iff]; intro j hj; simp at hj)
      rw [show [a].length + (L - 1) = L from by simp; omega] at this
      exact this
/-- The least margin of the first i steps. -/
def minTo (M : Mat) (q : List Nat) : Nat → Int
  | 0 => 99
  | i + 1 => min (minTo M q i) (M (q.getD i 0) (q.getD (i + 1) 0))
theorem minTo_ge {M : Mat} {q : List Nat} {t : Int} : ∀ i, t ≤ minTo M q i ↔ t ≤ 99 ∧ ∀ j, j < i → t ≤ M (q.getD j 0) (q.getD (j + 1) 0)
  | 0 => by simp [minTo]
  | i + 1 => by
    rw [minTo, Int.le_min, minTo_ge i]
    constructor
    · rintro ⟨⟨h1, h2⟩, h3⟩
      refine ⟨h1, fun j hj => ?_⟩
      rcases (by omega : j < i ∨ j = i) with h | rfl
      · exact h2 j h
      · exact h3
    · rintro ⟨h1, h2⟩
      exact ⟨⟨h1, fun j hj => h2 j (by omega)⟩, h2 i (by omega)⟩
theorem minTo_eq {M : Mat} {n a c L : Nat} {q : List Nat} (hac : a ≠ c) (hL : 2 ≤ L) (h : PathOk M n c (widM n M a c) L a q) (h99 : widM n M a c ≤ 99) : minTo M q (L - 1) = widM n M a c := by
  have h1 : widM n M a c ≤ minTo M q (L - 1) := by
    rw [minTo_ge]
    refine ⟨h99, fun j hj => ?_⟩
    exact stp_iff.1 h.stp j (by rw [h.len]; omega)
  have h2 : minTo M q (L - 1) ≤ widM n M a c := by
    have h3 := ((minTo_ge (M := M) (q := q) (t := minTo M q (L - 1)) (L - 1)).1 (Int.le_refl _)).2
    cases hq : q with
    | nil => have := h.len; rw [hq] at this; simp at this; omega
    | cons y l =>
      have hya : y = a := by have := h.first; rw [hq] at this; simpa using this
      subst hya
      rw [widM_phases, ← hq]
      refine path_wide l y c ?_ (by rw [← hq]; exact h.nd) (by rw [← hq]; exact h.lt) ?_ hac
      · rw [← hq, stp_iff]
        intro j hj
        exact h3 j (by rw [h.len] at hj; omega)
      · rw [← hq, getLast_getD h.len (by omega), h.last]
  omega
end Go.Proofs.Ytejijddfepgnkaa
