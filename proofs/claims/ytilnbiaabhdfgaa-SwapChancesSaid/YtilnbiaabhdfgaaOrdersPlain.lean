/-
  All orders of n numbers, in order, and a walk through them that may stop. Without any program.
-/
import Derived.Test.YtilnbiaabhdfgaaWishes
namespace Go.Proofs.Ytilnbiaabhdfgaa
open Go.RowKit
set_option linter.unusedVariables false
set_option linter.unusedSimpArgs false

/-- All orders of the numbers below n that begin with l, d numbers being left. -/
def ordsF (n : Nat) : Nat → List Nat → List (List Nat)
  | 0, l => [l]
  | d + 1, l => (List.range n).flatMap fun x => if x ∈ l then [] else ordsF n d (l ++ [x])
def ordsN (n : Nat) : List (List Nat) := ordsF n n []
/-- Those whose next number is below k. -/
def ordsTo (n d : Nat) (l : List Nat) (k : Nat) : List (List Nat) := (List.range k).flatMap fun x => if x ∈ l then [] else ordsF n d (l ++ [x])
theorem ordsTo_succ (n d : Nat) (l : List Nat) (k : Nat) : ordsTo n d l (k + 1) = ordsTo n d l k ++ if k ∈ l then [] else ordsF n d (l ++ [k]) := by
  simp [ordsTo, List.range_succ]
theorem ordsTo_split (n d : Nat) (l : List Nat) {k m : Nat} (h : k ≤ m) : ∃ t, ordsTo n d l m = ordsTo n d l k ++ t := by
  induction m with
  | zero => obtain rfl : k = 0 := by omega
            exact ⟨[], by simp⟩
  | succ m ih =>
    by_cases e : k = m + 1
    · subst e; exact ⟨[], by simp⟩
    · obtain ⟨t, ht⟩ := ih (by omega)
      exact ⟨_, by rw [ordsTo_succ, ht, List.append_assoc]⟩
theorem ordsTo_full (n d : Nat) (l : List Nat) : ordsTo n d l n = ordsF n (d + 1) l := rfl

section
variable {σ : Type} (step : σ → List Nat → Bool × σ)
/-- From state to state through the orders, as long as the step wants more. -/
def runL : List (List Nat) → σ → Bool × σ
  | [], s => (true, s)
  | l :: ls, s => if (step s l).1 then runL ls (step s l).2 else (false, (step s l).2)
theorem runL_append (a b : List (List Nat)) (s : σ) : runL step (a ++ b) s = if (runL step a s).1 then runL step b (runL step a s).2 else runL step a s := by
  induction a generalizing s with
  | nil => simp [runL]
  | cons l ls ih =>
    simp only [List.cons_append, runL]
    split
    · exact ih _
    · simp
theorem runL_stop {a : List (List Nat)} (b : List (List Nat)) {s : σ} (h : (runL step a s).1 = false) : runL step (a ++ b) s = runL step a s := by
  rw [runL_append, h]; simp
theorem runL_one (l : List Nat) (s : σ) : runL step [l] s = step s l := by
  simp only [runL]
  cases h : step s l with
  | mk b s' => cases b <;> simp
end

/-- Different numbers below n. -/
structure Part (l : List Nat) (n : Nat) : Prop where
  nd : l.Nodup
  lt : ∀ x ∈ l, x < n
theorem Part.nil_ (n : Nat) : Part [] n := ⟨by simp, by simp⟩
theorem Part.snoc {l : List Nat} {n k : Nat} (h : Part l n) (hk : k < n) (hl : k ∉ l) : Part (l ++ [k]) n :=
  ⟨by rw [List.nodup_append]; exact ⟨h.nd, by simp, by intro a ha b hb; simp at hb; subst hb; intro e; subst e; exact hl ha⟩, fun x hx => by
    rcases List.mem_append.1 hx with hx | hx
    · exact h.lt x hx
    · simp at hx; subst hx; exact hk⟩
theorem Part.ord {l : List Nat} {n : Nat} (h : Part l n) (hl : l.length = n) : Ord l n := by
  refine ⟨hl, fun g => ⟨h.lt g, fun hg => ?_⟩⟩
  apply Classical.byContradiction
  intro hm
  have := nodup_le n (g :: l) (List.nodup_cons.2 ⟨hm, h.nd⟩) (fun x hx => by
    rcases List.mem_cons.1 hx with rfl | hx
    · exact hg
    · exact h.lt x hx)
  simp at this
  omega
theorem Ord.part {l : List Nat} {n : Nat} (h : Ord l n) : Part l n := by
  refine ⟨?_, fun x hx => (h.mem x).1 hx⟩
  rw [List.nodup_iff_pairwise_ne, List.pairwise_iff_getElem]
  intro i j hi hj hij e
  have := h.inj i j (by rw [← h.len]; exact hi) (by rw [← h.len]; exact hj) (by simp only [List.getD_eq_getElem?_getD, List.getElem?_eq_getElem hi, List.getElem?_eq_getElem hj]; exact e)
  omega
/-- The orders that begin with l are just those. -/
theorem mem_ordsF {n : Nat} : ∀ (d : Nat) (l o : List Nat), Part l n → l.length + d = n → (o ∈ ordsF n d l ↔ Ord o n ∧ ∃ t, o = l ++ t) := by
  intro d
  induction d with
  | zero =>
    intro l o hp hl
    simp only [ordsF, List.mem_singleton]
    constructor
    · rintro rfl; exact ⟨hp.ord (by omega), [], by simp⟩
    · rintro ⟨ho, t, rfl⟩
      have := ho.len
      simp only [List.length_append] at this
      have : t = [] := List.eq_nil_of_length_eq_zero (by omega)
      rw [this]; simp
  | succ d ih =>
    intro l o hp hl
    simp only [ordsF, List.mem_flatMap, List.mem_range]
    constructor
    · rintro ⟨x, hx, ho⟩
      split at ho
      · cases ho
      · rename_i hxl
        obtain ⟨h1, t, rfl⟩ := (ih (l ++ [x]) o (hp.snoc hx hxl) (by simp; omega)).1 ho
        exact ⟨h1, x :: t, by simp⟩
    · rintro ⟨ho, t, rfl⟩
      cases t with
      | nil => have := ho.len; simp at this; omega
      | cons x t =>
        have hnd := ho.part.nd
        have hxl : x ∉ l := by
          rw [List.nodup_append] at hnd
          intro hm
          exact hnd.2.2 x hm x (by simp) rfl
        have hx : x < n := (ho.mem x).1 (by simp)
        refine ⟨x, hx, ?_⟩
        rw [if_neg hxl]
        exact (ih (l ++ [x]) _ (hp.snoc hx hxl) (by simp; omega)).2 ⟨ho, t, by simp⟩
theorem mem_ordsN {n : Nat} {o : List Nat} : o ∈ ordsN n ↔ Ord o n := by
  rw [ordsN, mem_ordsF n [] o (Part.nil_ n) (by simp)]
  exact ⟨fun h => h.1, fun h => ⟨h, o, by simp⟩⟩
end Go.Proofs.Ytilnbiaabhdfgaa
