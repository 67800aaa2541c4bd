/-
  Taking turns, plain: picking the best free good is choosing by lists sorted by worth.
-/
import Derived.Test.YtgognkofnegobaaSortP
namespace Go.Proofs.Ytgognkofnegobaa
open Go.RowKit
set_option linter.unusedVariables false
set_option linter.unusedSimpArgs false

/-- What the search for the best free good knows after k goods. -/
def PickTo (row : Nat → Int) (D : Nat → Int) (k : Nat) (best : Int) : Prop :=
  (best = -1 ∧ ∀ g, g < k → ¬ D g < 0) ∨ ∃ b : Nat, b < k ∧ best = (b : Int) ∧ D b < 0 ∧ ∀ g, g < k → D g < 0 → row g < row b ∨ row g = row b ∧ b ≤ g
theorem PickTo.zero (row D : Nat → Int) : PickTo row D 0 (-1) := .inl ⟨rfl, fun g hg => absurd hg (by omega)⟩
theorem PickTo.skip {row D : Nat → Int} {k : Nat} {best : Int} (h : PickTo row D k best) (hk : ¬ D k < 0) : PickTo row D (k + 1) best := by
  rcases h with ⟨h1, h2⟩ | ⟨b, h1, h2, h3, h4⟩
  · refine .inl ⟨h1, fun g hg => ?_⟩
    by_cases e : g = k
    · rw [e]; exact hk
    · exact h2 g (by omega)
  · refine .inr ⟨b, by omega, h2, h3, fun g hg hf => ?_⟩
    by_cases e : g = k
    · rw [e] at hf; exact absurd hf hk
    · exact h4 g (by omega) hf
theorem PickTo.first {row D : Nat → Int} {k : Nat} {best : Int} (h : PickTo row D k best) (hb : best < 0) (hk : D k < 0) : PickTo row D (k + 1) (k : Nat) := by
  rcases h with ⟨h1, h2⟩ | ⟨b, h1, h2, h3, h4⟩
  · refine .inr ⟨k, by omega, rfl, hk, fun g hg hf => ?_⟩
    by_cases e : g = k
    · exact .inr ⟨by rw [e], by omega⟩
    · exact absurd hf (h2 g (by omega))
  · omega
theorem PickTo.more {row D : Nat → Int} {k b : Nat} (h : PickTo row D k (b : Nat)) (hk : D k < 0) (hr : row b < row k) : PickTo row D (k + 1) (k : Nat) := by
  rcases h with ⟨h1, h2⟩ | ⟨b', h1, h2, h3, h4⟩
  · omega
  · obtain rfl : b = b' := by omega
    refine .inr ⟨k, by omega, rfl, hk, fun g hg hf => ?_⟩
    by_cases e : g = k
    · exact .inr ⟨by rw [e], by omega⟩
    · have := h4 g (by omega) hf
      exact .inl (by omega)
theorem PickTo.less {row D : Nat → Int} {k b : Nat} (h : PickTo row D k (b : Nat)) (hk : D k < 0) (hr : ¬ row b < row k) : PickTo row D (k + 1) (b : Nat) := by
  rcases h with ⟨h1, h2⟩ | ⟨b', h1, h2, h3, h4⟩
  · omega
  · obtain rfl : b = b' := by omega
    refine .inr ⟨b, by omega, rfl, h3, fun g hg hf => ?_⟩
    by_cases e : g = k
    · subst e
      by_cases e2 : row g = row b
      · exact .inr ⟨e2, by omega⟩
      · exact .inl (by omega)
    · exact h4 g (by omega) hf
theorem PickTo.lt {row D : Nat → Int} {k b : Nat} (h : PickTo row D k (b : Nat)) : b < k ∧ D b < 0 := by
  rcases h with ⟨h1, h2⟩ | ⟨b', h1, h2, h3, h4⟩
  · omega
  · obtain rfl : b = b' := by omega
    exact ⟨h1, h3⟩
theorem PickTo.cases {row D : Nat → Int} {k : Nat} {best : Int} (h : PickTo row D k best) : best = -1 ∨ ∃ b : Nat, best = (b : Int) := by
  rcases h with ⟨h1, h2⟩ | ⟨b', h1, h2, h3, h4⟩
  · exact .inl h1
  · exact .inr ⟨b', h2⟩

/-- After t turns: who of the first t has what. -/
structure RndTo (row : Nat → Nat → Int) (n t : Nat) (D : Nat → Int) (c : Nat → Nat) : Prop where
  has : ∀ i, i < t → c i < n ∧ D (c i) = (i : Int)
  who : ∀ g, g < n → D g = -1 ∨ ∃ i : Nat, i < t ∧ D g = (i : Int) ∧ c i = g
  pre : ∀ i, i < t → ∀ y, y < n → ltK (fun g => - row i g) y (c i) → ∃ j, j < i ∧ c j = y
theorem RndTo.zero (row : Nat → Nat → Int) (n : Nat) (D : Nat → Int) (c : Nat → Nat) (hD : ∀ g, g < n → D g = -1) : RndTo row n 0 D c :=
  ⟨fun i hi => absurd hi (by omega), fun g hg => .inl (hD g hg), fun i hi => absurd hi (by omega)⟩
section
variable {row : Nat → Nat → Int} {n t : Nat} {D : Nat → Int} {c : Nat → Nat}
theorem RndTo.pick (h : RndTo row n t D c) (ht : t < n) {best : Int} (hp : PickTo (row t) D n best) : ∃ b : Nat, b < n ∧ best = (b : Int) := by
  rcases hp with ⟨h1, h2⟩ | ⟨b, h1, h2, _⟩
  · exfalso
    have hw : ∀ g, g < n → ∃ i : Nat, i < t ∧ D g = (i : Int) ∧ c i = g := fun g hg => by
      rcases h.who g hg with h3 | h3
      · exact absurd (by omega) (h2 g hg)
      · exact h3
    obtain ⟨k, hk, e⟩ := surj_on (n := n) (f := fun g => (D g).toNat) (P := fun g => g < n) (fun k hk => hk) (fun k hk => by
      obtain ⟨i, h3, h4, _⟩ := hw k hk
      show (D k).toNat < n
      omega) (fun j k hj hk e => by
      obtain ⟨i, h3, h4, h5⟩ := hw j hj
      obtain ⟨i', h6, h7, h8⟩ := hw k hk
      have e' : (D j).toNat = (D k).toNat := e
      obtain rfl : i = i' := by omega
      omega) (y := t) ht
    obtain ⟨i, h3, h4, _⟩ := hw k hk
    have e' : (D k).toNat = t := e
    omega
  · exact ⟨b, h1, h2⟩
theorem RndTo.next (h : RndTo row n t D c) {b : Nat} (hp : PickTo (row t) D n (b : Nat)) {D' : Nat → Int} (hD : ∀ g, g < n → D' g = if g = b then (t : Int) else D g) : RndTo row n (t + 1) D' (fun i => if i = t then b else c i) := by
  have hb := hp.lt
  have hne : ∀ i, i < t → c i ≠ b := fun i hi e => by
    have := (h.has i hi).2
    rw [e] at this
    omega
  refine ⟨fun i hi => ?_, fun g hg => ?_, fun i hi y hy hlt => ?_⟩
  · by_cases e : i = t
    · subst e
      simp only [if_pos]
      refine ⟨hb.1, ?_⟩
      rw [hD b hb.1, if_pos rfl]
    · simp only [if_neg e]
      have h1 := h.has i (by omega)
      refine ⟨h1.1, ?_⟩
      rw [hD _ h1.1, if_neg (hne i (by omega))]; exact h1.2
  · rw [hD g hg]
    by_cases e : g = b
    · rw [if_pos e]
      exact .inr ⟨t, by omega, rfl, by simp [e]⟩
    · rw [if_neg e]
      rcases h.who g hg with h1 | ⟨i, h1, h2, h3⟩
      · exact .inl h1
      · exact .inr ⟨i, by omega, h2, by rw [if_neg (by omega)]; exact h3⟩
  · by_cases e : i = t
    · subst e
      simp only [if_pos] at hlt
      rcases h.who y hy with h1 | ⟨j, h1, h2, h3⟩
      · exfalso
        rcases hp with ⟨h4, _⟩ | ⟨b', h4, h5, h6, h7⟩
        · omega
        · obtain rfl : b = b' := by omega
          have := h7 y hy (by omega)
          rcases hlt with h8 | ⟨h8, h9⟩
          · have : - row i y < - row i b := h8
            omega
          · have : - row i y = - row i b := h8
            omega
      · exact ⟨j, h1, by simp only [if_neg (show ¬ j = i by omega)]; exact h3⟩
    · simp only [if_neg e] at hlt
      obtain ⟨j, h1, h2⟩ := h.pre i (by omega) y hy hlt
      exact ⟨j, h1, by simp only [if_neg (show ¬ j = t by omega)]; exact h2⟩
end
/-- A row sorted by worth. -/
def SrtRow (row : Nat → Int) (n : Nat) (l : List Nat) : Prop := ∃ s : Nat → Nat, l = (List.range n).map s ∧ Sorted0 (fun g => - row g) (fun k => k) s n n
theorem SrtRow.len {row : Nat → Int} {n : Nat} {l : List Nat} (h : SrtRow row n l) : l.length = n := by
  obtain ⟨s, rfl, _⟩ := h; simp
theorem SrtRow.ord {row : Nat → Int} {n : Nat} {l : List Nat} (h : SrtRow row n l) : Ord l n := by
  obtain ⟨s, rfl, h⟩ := h
  have hlt : ∀ k, k < n → s k < n := fun k hk => by
    obtain ⟨m, hm, e⟩ := h.low k hk
    rw [e]; exact hm
  have hne : ∀ a b, a < b → b < n → s a ≠ s b := fun a b hab hb e => by
    rcases h.sorted a b hab hb with h1 | ⟨h1, h2⟩
    · rw [e] at h1; omega
    · omega
  refine ⟨by simp, fun g => ?_⟩
  rw [List.mem_map]
  constructor
  · rintro ⟨k, hk, rfl⟩; exact hlt k (List.mem_range.1 hk)
  · intro hg
    obtain ⟨k, hk, e⟩ := surj_on (n := n) (f := s) (P := fun k => k < n) (fun k hk => hk) hlt (fun j k hj hk e => by
      rcases Nat.lt_trichotomy j k with h1 | h1 | h1
      · exact absurd e (hne j k h1 hk)
      · exact h1
      · exact absurd e.symm (hne k j h1 hj)) hg
    exact ⟨k, List.mem_range.2 hk, e⟩
theorem SrtRow.before {row : Nat → Int} {n : Nat} {l : List Nat} (h : SrtRow row n l) {x y : Nat} (hx : x < n) (hy : y < n) (hp : place l y < place l x) : ltK (fun g => - row g) y x := by
  have ho := h.ord
  have h1 := place_lt ((ho.mem x).2 hx)
  have h2 := place_lt ((ho.mem y).2 hy)
  obtain ⟨s, rfl, h⟩ := h
  have hat : ∀ k, k < n → ((List.range n).map s).getD k 0 = s k := fun k hk => by simp [List.getD_eq_getElem?_getD, hk]
  rw [ho.len] at h1 h2
  have h3 := h1.2
  have h4 := h2.2
  rw [hat _ h1.1] at h3
  rw [hat _ h2.1] at h4
  have := h.sorted _ _ hp h1.1
  rw [h3, h4] at this
  exact this
/-- In the end everyone has what choosing in order gives them. -/
theorem RndTo.choose {row : Nat → Nat → Int} {n : Nat} {D : Nat → Int} {c : Nat → Nat} (h : RndTo row n n D c) {W : List (List Nat)} (hlen : W.length = n) (hW : ∀ i, i < n → SrtRow (row i) n (W.getD i [])) :
    ∀ i, i < n → chosen W (List.range n) i < n ∧ D (chosen W (List.range n) i) = (i : Int) := by
  have hrows : ∀ i, i < n → Ord (W.getD i []) n := fun i hi => (hW i hi).ord
  have ho := ord_range n
  have hpl : ∀ i, i < n → place (List.range n) i = i := fun i hi => by
    have h1 := place_lt (l := List.range n) (g := i) (by simpa using hi)
    have h2 := h1.2
    rw [List.length_range] at h1
    rw [List.getD_eq_getElem?_getD, List.getElem?_range h1.1] at h2
    exact h2
  have hcho : Cho W n c (place (List.range n)) := by
    refine ⟨fun i hi => (h.has i hi).1, fun i j hi hj e => ?_, fun i y hi hy hp => ?_⟩
    · have h1 := (h.has i hi).2
      have h2 := (h.has j hj).2
      rw [e] at h1
      omega
    · obtain ⟨j, h1, h2⟩ := h.pre i hi y hy ((hW i hi).before (h.has i hi).1 hy hp)
      exact ⟨j, by omega, by rw [hpl i hi, hpl j (by omega)]; exact h1, h2⟩
  intro i hi
  have hu := hcho.unique (chosen_cho hlen hrows ho) hrows (fun i j hi hj e => place_inj ho hi hj e) i hi
  rw [hu]
  exact h.has i hi
end Go.Proofs.Ytgognkofnegobaa
