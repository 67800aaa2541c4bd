/-
  Valid wishes as numbers, and the beginning of what came in. Without any program.
-/
import Derived.Test.YtilnbiaabhdfgaaTtcTheory
namespace Go.Proofs.Ytilnbiaabhdfgaa
open Go.RowKit
set_option linter.unusedVariables false
set_option linter.unusedSimpArgs false

/-- Wishes are valid. -/
def validB (L : List (List Int)) : Bool := decide (1 ≤ L.length ∧ L.length ≤ 5) && L.all fun l => ordB l L.length
/-- What few copies. -/
def fewL (L : List (List Int)) : List (List Int) := (L.take 7).map (List.take 7)
def toN (l : List Int) : List Nat := l.map Int.toNat
def toNN (L : List (List Int)) : List (List Nat) := L.map toN
theorem up_toN {l : List Int} (h : ∀ x ∈ l, 0 ≤ x) : up (toN l) = l := by
  induction l with
  | nil => rfl
  | cons x l ih =>
    have h1 := h x (by simp)
    have h2 := ih (fun y hy => h y (by simp [hy]))
    simp only [up, toN, List.map_cons, List.map_map] at h2 ⊢
    rw [h2]
    congr 1
    omega
theorem upp_toNN {L : List (List Int)} (h : ∀ l ∈ L, ∀ x ∈ l, 0 ≤ x) : upp (toNN L) = L := by
  induction L with
  | nil => rfl
  | cons x l ih =>
    have h2 := ih (fun y hy => h y (by simp [hy]))
    simp only [upp, toNN, List.map_cons, List.map_map] at h2 ⊢
    rw [h2, up_toN (h x (by simp))]

theorem validB_iff {L : List (List Int)} : validB L = true ↔ (1 ≤ L.length ∧ L.length ≤ 5) ∧ ∀ l ∈ L, ordB l L.length = true := by
  simp [validB, List.all_eq_true]
/-- An order of all things, as numbers. -/
structure Ord (l : List Nat) (n : Nat) : Prop where
  len : l.length = n
  mem : ∀ g, g ∈ l ↔ g < n
theorem ord_of {l : List Int} {n : Nat} (h : ordB l n = true) : up (toN l) = l ∧ Ord (toN l) n := by
  obtain ⟨h1, h2, h3⟩ := ordB_iff.1 h
  have hu := up_toN (l := l) (fun x hx => (h2 x hx).1)
  refine ⟨hu, by simp [toN, h1], fun g => ?_⟩
  rw [← mem_up, hu]
  exact ⟨fun hg => by have := h2 _ hg; omega, fun hg => h3 g hg⟩
theorem ord_B {l : List Nat} {n : Nat} (h : Ord l n) : ordB (up l) n = true := by
  rw [ordB_iff]
  refine ⟨by rw [up_length, h.len], fun x hx => ?_, fun x hx => mem_up.2 ((h.mem x).2 hx)⟩
  simp only [up, List.mem_map] at hx
  obtain ⟨y, hy, rfl⟩ := hx
  have := (h.mem y).1 hy
  omega
theorem Ord.getD_lt {l : List Nat} {n i : Nat} (h : Ord l n) (hi : i < n) : l.getD i 0 < n := (h.mem _).1 (getD_mem (by rw [h.len]; exact hi))
theorem place_first {l : List Nat} {g i : Nat} (hi : i < l.length) (h : l.getD i 0 = g) : place l g ≤ i := by
  unfold place
  cases hf : (List.range l.length).find? (fun i => l.getD i 0 == g) with
  | some k =>
    obtain ⟨_, _, h3⟩ := find_range_some.1 hf
    rcases Nat.lt_or_ge i k with h4 | h4
    · have := h3 i h4; rw [h] at this; simp at this
    · exact h4
  | none => have := find_range_none.1 hf i hi; rw [h] at this; simp at this
/-- Each number stands once. -/
theorem Ord.inj {l : List Nat} {n : Nat} (h : Ord l n) : ∀ i j, i < n → j < n → l.getD i 0 = l.getD j 0 → i = j := by
  have key : ∀ i j, i < j → j < n → l.getD i 0 ≠ l.getD j 0 := by
    intro i j hij hj e
    have hpl : ∀ g, g < n → place l g < n ∧ l.getD (place l g) 0 = g := fun g hg => by
      have := place_lt ((h.mem g).2 hg)
      rw [h.len] at this; exact this
    have hnd : (j :: (List.range n).map (place l)).Nodup := by
      rw [List.nodup_cons]
      constructor
      · intro hm
        obtain ⟨g, hg, e2⟩ := List.mem_map.1 hm
        simp only [List.mem_range] at hg
        have h2 := (hpl g hg).2
        rw [e2] at h2
        have h3 := place_first (l := l) (g := g) (i := i) (by rw [h.len]; omega) (by rw [e, h2])
        omega
      · rw [List.nodup_iff_pairwise_ne, List.pairwise_map]
        refine List.Pairwise.imp_of_mem ?_ (List.pairwise_lt_range (n := n))
        intro a b ha hb hab e2
        simp only [List.mem_range] at ha hb
        have h1 := (hpl a ha).2
        have h2 := (hpl b hb).2
        rw [e2, h2] at h1
        omega
    have := nodup_le n _ hnd (fun x hx => by
      rcases List.mem_cons.1 hx with rfl | hx
      · exact hj
      · obtain ⟨g, hg, rfl⟩ := List.mem_map.1 hx
        exact (hpl g (by simpa using hg)).1)
    simp at this
    omega
  intro i j hi hj e
  rcases Nat.lt_trichotomy i j with h1 | h1 | h1
  · exact absurd e (key i j h1 hj)
  · exact h1
  · exact absurd e.symm (key j i h1 hi)
/-- n people, each with an order of all things. -/
structure WOk (W : List (List Nat)) (n : Nat) : Prop where
  len : W.length = n
  pos : 1 ≤ n
  le : n ≤ 5
  rows : ∀ i, i < n → Ord (W.getD i []) n
theorem valid_ok {L : List (List Int)} (h : validB L = true) : upp (toNN L) = L ∧ WOk (toNN L) L.length := by
  obtain ⟨⟨h1, h5⟩, hr⟩ := validB_iff.1 h
  refine ⟨upp_toNN fun l hl x hx => ?_, by simp [toNN], h1, h5, fun i hi => ?_⟩
  · exact ((ordB_iff.1 (hr l hl)).2.1 x hx).1
  · have e : (toNN L).getD i [] = toN (L.getD i []) := by
      simp only [toNN, List.getD_eq_getElem?_getD, List.getElem?_map]
      cases L[i]? <;> rfl
    rw [e]
    exact (ord_of (hr _ (getD_mem hi))).2
theorem WOk.mkt {W : List (List Nat)} {n : Nat} (h : WOk W n) {has : List Nat} (ho : Ord has n) : Mkt W has n :=
  ⟨h.len, fun i hi => ⟨(h.rows i hi).len, (h.rows i hi).mem⟩, ho.len, ho.mem, ho.inj⟩
theorem ord_range (n : Nat) : Ord (List.range n) n := ⟨by simp, fun g => by simp⟩

/-! ### the beginning of what came in -/
theorem few_same {L : List (List Int)} (h : validB L = true) : fewL L = L := by
  obtain ⟨⟨h1, h5⟩, hr⟩ := validB_iff.1 h
  unfold fewL
  rw [List.take_of_length_le (by omega)]
  have : ∀ l ∈ L, List.take 7 l = id l := fun l hl => List.take_of_length_le (by have := (ordB_iff.1 (hr l hl)).1; omega)
  rw [List.map_congr_left this, List.map_id]
theorem few_valid (L : List (List Int)) : validB (fewL L) = validB L := by
  cases h : validB L with
  | true => rw [few_same h]; exact h
  | false =>
    cases h' : validB (fewL L) with
    | false => rfl
    | true =>
      exfalso
      obtain ⟨⟨h1, h5⟩, hr⟩ := validB_iff.1 h'
      have hlen : (fewL L).length = min 7 L.length := by simp [fewL]
      have hL : L.length ≤ 5 := by omega
      have e : fewL L = L := by
        unfold fewL
        rw [List.take_of_length_le (by omega)]
        have : ∀ l ∈ L, List.take 7 l = id l := fun l hl => by
          have hm : List.take 7 l ∈ fewL L := by
            unfold fewL
            rw [List.take_of_length_le (by omega)]
            exact List.mem_map.2 ⟨l, hl, rfl⟩
          have := (ordB_iff.1 (hr _ hm)).1
          simp only [List.length_take] at this
          exact List.take_of_length_le (by omega)
        rw [List.map_congr_left this, List.map_id]
      rw [e, h] at h'
      cases h'
theorem take_ord {o : List Int} {n : Nat} (hn : n ≤ 5) : ordB (o.take 7) n = ordB o n := by
  by_cases h : o.length ≤ 7
  · rw [List.take_of_length_le h]
  · have h1 : ordB o n = false := by
      cases h' : ordB o n with
      | false => rfl
      | true => have := (ordB_iff.1 h').1; omega
    have h2 : ordB (o.take 7) n = false := by
      cases h' : ordB (o.take 7) n with
      | false => rfl
      | true => have := (ordB_iff.1 h').1; simp only [List.length_take] at this; omega
    rw [h1, h2]
theorem take_same {o : List Int} {n : Nat} (hn : n ≤ 5) (h : ordB o n = true) : o.take 7 = o := List.take_of_length_le (by have := (ordB_iff.1 h).1; omega)

/-- What Trade and Rounds return of valid wishes. -/
def tradeN (W : List (List Nat)) : List Nat := listF W.length (traded W (List.range W.length)).1
def roundsN (W : List (List Nat)) : List Nat := listF W.length (traded W (List.range W.length)).2
end Go.Proofs.Ytilnbiaabhdfgaa
