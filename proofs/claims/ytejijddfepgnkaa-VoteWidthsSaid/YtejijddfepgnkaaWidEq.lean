/-
  The program's widths are the reference's.
-/
import Derived.Test.YtejijddfepgnkaaWidPlain
import Derived.Test.YtejijddfepgnkaaRefWidth
import Derived.Test.YtejijddfepgnkaaMargEq
namespace Go.Proofs.Ytejijddfepgnkaa
open Go.RowKit
set_option linter.unusedVariables false
set_option linter.unusedSimpArgs false

theorem mem_someN {n : Nat} : ∀ (k : Nat) (p : List Nat), p ∈ someN n k ↔ p.length = k ∧ p.Nodup ∧ ∀ x ∈ p, x < n
  | 0, p => by
    simp only [someN, List.mem_singleton]
    constructor
    · rintro rfl; simp
    · rintro ⟨h, _⟩; exact List.length_eq_zero_iff.1 h
  | k + 1, p => by
    simp only [someN, List.mem_flatMap, extTo]
    constructor
    · rintro ⟨m, hm, x, hx, h⟩
      obtain ⟨h1, h2, h3⟩ := (mem_someN k m).1 hm
      split at h
      · cases h
      · rename_i hxm
        simp at h; subst h
        refine ⟨by simp [h1], ?_, fun y hy => ?_⟩
        · rw [List.nodup_append]
          exact ⟨h2, by simp, fun y hy z hz => by simp at hz; subst hz; intro e; subst e; exact hxm hy⟩
        · rcases List.mem_append.1 hy with hy | hy
          · exact h3 y hy
          · simp at hy; subst hy; exact List.mem_range.1 hx
    · rintro ⟨h1, h2, h3⟩
      have hne : p ≠ [] := fun e => by subst e; simp at h1
      have hp := List.dropLast_concat_getLast hne
      obtain ⟨m, hm⟩ : ∃ m, p.dropLast = m := ⟨_, rfl⟩
      obtain ⟨x, hx⟩ : ∃ x, p.getLast hne = x := ⟨_, rfl⟩
      rw [hm, hx] at hp
      subst hp
      rw [List.nodup_append] at h2
      refine ⟨m, (mem_someN k m).2 ⟨by simpa using h1, h2.1, fun y hy => h3 y (List.mem_append_left _ hy)⟩, x, List.mem_range.2 (h3 x (by simp)), ?_⟩
      rw [if_neg (fun h => h2.2.2 x h x (by simp) rfl)]
      simp

theorem stp_iff {R : Nat → Nat → Prop} : ∀ {l : List Nat}, Stp R l ↔ ∀ j, j + 1 < l.length → R (l.getD j 0) (l.getD (j + 1) 0)
  | [] => by simp [Stp]
  | [x] => by simp [Stp]
  | x :: y :: l => by
    rw [Stp, stp_iff (l := y :: l)]
    constructor
    · rintro ⟨h1, h2⟩ j hj
      cases j with
      | zero => exact h1
      | succ j => exact h2 j (by simpa using hj)
    · intro h
      exact ⟨h 0 (by simp), fun j hj => h (j + 1) (by simpa using hj)⟩
theorem strTo_ge {W : List (List Nat)} {p : List Nat} {t : Int} : ∀ i, t ≤ strTo W p i ↔ t ≤ 99 ∧ ∀ j, j < i → t ≤ marg W (p.getD j 0) (p.getD (j + 1) 0)
  | 0 => by simp [strTo]
  | i + 1 => by
    rw [strTo]
    have h := strTo_ge (W := W) (p := p) (t := t) i
    constructor
    · intro h1
      obtain ⟨h2, h3⟩ := h.1 (by omega)
      refine ⟨h2, fun j hj => ?_⟩
      by_cases e : j = i
      · subst e; omega
      · exact h3 j (by omega)
    · rintro ⟨h1, h2⟩
      have h3 := h.2 ⟨h1, fun j hj => h2 j (by omega)⟩
      have h4 := h2 i (by omega)
      omega
theorem strN_ge {W : List (List Nat)} {p : List Nat} {t : Int} : t ≤ strN W p ↔ t ≤ 99 ∧ Stp (fun x y => t ≤ marg W x y) p := by
  rw [strN, strTo_ge, stp_iff]
  constructor
  · rintro ⟨h1, h2⟩; exact ⟨h1, fun j hj => h2 j (by omega)⟩
  · rintro ⟨h1, h2⟩; exact ⟨h1, fun j hj => h2 j (by omega)⟩
theorem wfold_ge {W : List (List Nat)} {a b k : Nat} {t : Int} : ∀ (xs : List (List Nat)) (best : Int), t ≤ xs.foldl (wRow W a b k) best ↔ t ≤ best ∨ ∃ p ∈ xs, p.getD 0 0 = a ∧ p.getD (k - 1) 0 = b ∧ t ≤ strN W p
  | [], best => by simp
  | x :: xs, best => by
    rw [List.foldl_cons, wfold_ge xs]
    constructor
    · rintro (h | ⟨p, hp, h⟩)
      · unfold wRow at h
        split at h
        · rename_i hc
          by_cases h2 : t ≤ best
          · exact .inl h2
          · exact .inr ⟨x, List.mem_cons_self .., hc.1, hc.2, by omega⟩
        · exact .inl h
      · exact .inr ⟨p, List.mem_cons_of_mem _ hp, h⟩
    · rintro (h | ⟨p, hp, h1, h2, h3⟩)
      · left; unfold wRow; split <;> omega
      · rcases List.mem_cons.1 hp with rfl | hp
        · left; unfold wRow; rw [if_pos ⟨h1, h2⟩]; omega
        · exact .inr ⟨p, hp, h1, h2, h3⟩
theorem wTo_ge {W : List (List Nat)} {n a b : Nat} {t : Int} : ∀ i, t ≤ wTo W n a b i ↔ t ≤ -99 ∨ ∃ k, 2 ≤ k ∧ k < i + 2 ∧ ∃ p ∈ someN n k, p.getD 0 0 = a ∧ p.getD (k - 1) 0 = b ∧ t ≤ strN W p
  | 0 => by
    constructor
    · exact fun h => .inl h
    · rintro (h | ⟨k, h1, h2, _⟩)
      · exact h
      · omega
  | i + 1 => by
    rw [wTo, wK, wfold_ge, wTo_ge i]
    constructor
    · rintro ((h | ⟨k, h1, h2, h⟩) | h)
      · exact .inl h
      · exact .inr ⟨k, h1, by omega, h⟩
      · exact .inr ⟨i + 2, by omega, by omega, h⟩
    · rintro (h | ⟨k, h1, h2, h⟩)
      · exact .inl (.inl h)
      · by_cases e : k = i + 2
        · subst e; exact .inr h
        · exact .inl (.inr ⟨k, h1, by omega, h⟩)
theorem getLast_getD {l : List Nat} {k : Nat} (hk : l.length = k) (h1 : 1 ≤ k) : l.getLast? = some (l.getD (k - 1) 0) := by
  rw [List.getLast?_eq_getElem?, hk, List.getD_eq_getElem?_getD, List.getElem?_eq_getElem (by omega)]
  rfl
theorem path_wide {n : Nat} {M : Mat} {t : Int} : ∀ (l : List Nat) (a b : Nat), Stp (fun x y => t ≤ M x y) (a :: l) → (a :: l).Nodup → (∀ x ∈ a :: l, x < n) → (a :: l).getLast? = some b → a ≠ b → t ≤ phases n M n a b
  | [], a, b, _, _, _, hl, hab => absurd (by simpa using hl) hab
  | y :: l, a, b, hs, hd, hn, hl, hab => by
    have h1 : t ≤ phases n M n a y := Int.le_trans hs.1 (phases_ge M a y n)
    by_cases hyb : y = b
    · subst hyb; exact h1
    · have hl2 : (y :: l).getLast? = some b := by rw [List.getLast?_cons_cons] at hl; exact hl
      have h2 := path_wide l y b hs.2 (List.nodup_cons.1 hd).2 (fun x hx => hn x (List.mem_cons_of_mem _ hx)) hl2 hyb
      have hay : a ≠ y := fun e => (List.nodup_cons.1 hd).1 (by rw [e]; exact List.mem_cons_self ..)
      have hbn : b < n := hn b (List.mem_cons_of_mem _ (List.mem_of_getLast? hl2))
      have h3 := phases_tri (n := n) M n (Nat.le_refl _) a y b (hn a (List.mem_cons_self ..)) (hn y (List.mem_cons_of_mem _ (List.mem_cons_self ..))) hbn hay hyb hab
      omega

/-- The widths are the same. -/
theorem widM_eq {W : List (List Nat)} {v n a b : Nat} (hW : BOk W v n) (ha : a < n) (hb : b < n) (hab : a ≠ b) : widM n (margM W) a b = widN W n a b := by
  have h9 : W.length ≤ 9 := by rw [hW.len]; exact hW.le
  rw [widM_phases]
  apply Int.le_antisymm
  · obtain ⟨t, ht⟩ : ∃ t, phases n (margM W) n a b = t := ⟨_, rfl⟩
    rw [ht, widN, wTo_ge]
    right
    obtain ⟨l, h1, h2⟩ := phases_walk (n := n) (margM W) n (Nat.le_refl _) a b ha hb
    rw [ht] at h1
    have hall : ∀ x ∈ a :: (l ++ [b]), x < n := fun x hx => by
      rcases List.mem_cons.1 hx with rfl | hx
      · exact ha
      · rcases List.mem_append.1 hx with hx | hx
        · exact h2 x hx
        · simp at hx; subst hx; exact hb
    obtain ⟨l', g1, g2, g3, g4⟩ := walk_path (l ++ [b]) a (by simpa using h1) hall
    have hlast : (a :: l').getLast? = some b := by rw [g3]; rw [show a :: (l ++ [b]) = (a :: l) ++ [b] from rfl, List.getLast?_append]; simp
    have hl' : l' ≠ [] := fun e => by subst e; simp at hlast; exact hab hlast
    have hlen : 1 ≤ l'.length := List.length_pos_iff.2 hl'
    have hle : (a :: l').length ≤ n := nodup_le n _ g2 g4
    rw [List.length_cons] at hle
    have hst : Stp (fun x y => t ≤ marg W x y) (a :: l') := by
      rw [stp_iff] at g1 ⊢
      intro j hj
      have := g1 j hj
      rwa [margM_eq hW (g4 _ (getD_mem (by omega))) (g4 _ (getD_mem hj))] at this
    have h99 : t ≤ 99 := by
      have h3 := stp_iff.1 hst 0 (by rw [List.length_cons]; omega)
      have h4 := marg_bd ((a :: l').getD 0 0) ((a :: l').getD (0 + 1) 0) W
      omega
    refine ⟨l'.length + 1, by omega, by omega, a :: l', (mem_someN _ _).2 ⟨by simp, g2, g4⟩, rfl, ?_, strN_ge.2 ⟨h99, hst⟩⟩
    have := getLast_getD (l := a :: l') (k := l'.length + 1) (by simp) (by omega)
    rw [hlast] at this
    injection this with this
    exact this.symm
  · obtain ⟨t, ht⟩ : ∃ t, widN W n a b = t := ⟨_, rfl⟩
    rw [ht]
    have h0 : t ≤ wTo W n a b (n - 1) := by rw [← ht]; exact Int.le_refl _
    rcases (wTo_ge _).1 h0 with h | ⟨k, h1, h2, p, hp, e1, e2, h3⟩
    · have h4 := phases_ge (n := n) (margM W) a b n
      rw [margM_eq hW ha hb] at h4
      have h5 := marg_bd a b W
      omega
    · obtain ⟨g1, g2, g3⟩ := (mem_someN _ _).1 hp
      obtain ⟨h99, hst⟩ := strN_ge.1 h3
      cases p with
      | nil => simp at g1; omega
      | cons x l =>
        obtain rfl : x = a := e1
        have hlast := getLast_getD g1 (by omega)
        rw [e2] at hlast
        refine path_wide l x b ?_ g2 g3 hlast hab
        rw [stp_iff] at hst ⊢
        intro j hj
        have := hst j hj
        rwa [margM_eq hW (g3 _ (getD_mem (by omega))) (g3 _ (getD_mem hj))]
end Go.Proofs.Ytejijddfepgnkaa
