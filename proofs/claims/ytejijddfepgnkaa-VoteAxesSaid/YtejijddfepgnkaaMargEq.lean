/-
  What the program counts are the margins.
-/
import Derived.Test.YtejijddfepgnkaaMarginPlain
namespace Go.Proofs.Ytejijddfepgnkaa
open Go.RowKit
set_option linter.unusedVariables false
set_option linter.unusedSimpArgs false

theorem place_cons (x g : Nat) (r : List Nat) : place (x :: r) g = if x = g then 0 else place r g + 1 := by
  unfold place
  simp only [List.length_cons]
  rw [List.range_succ_eq_map, List.find?_cons]
  by_cases h : x = g
  · simp [h]
  · rw [if_neg h]
    have h2 : ((x :: r).getD 0 0 == g) = false := by simpa using h
    rw [h2, List.find?_map]
    have e : ((fun i => (x :: r).getD i 0 == g) ∘ Nat.succ) = fun i => r.getD i 0 == g := by
      funext i; simp [Function.comp]
    rw [e]
    cases (List.range r.length).find? fun i => r.getD i 0 == g <;> simp
/-- Which of two stands before the other, read from the front. -/
def mk2 : List Nat → Nat → Nat → Int
  | [], _, _ => 0
  | x :: r, a, b => (if a = x ∧ b ∈ r then 1 else if b = x ∧ a ∈ r then -1 else 0) + mk2 r a b
theorem mk2_none : ∀ (r : List Nat) (a b : Nat), ¬ (a ∈ r ∧ b ∈ r) → mk2 r a b = 0 := by
  intro r
  induction r with
  | nil => intro a b _; rfl
  | cons x r ih =>
    intro a b h
    have h1 : ¬ (a = x ∧ b ∈ r) := fun e => h ⟨by simp [e.1], by simp [e.2]⟩
    have h2 : ¬ (b = x ∧ a ∈ r) := fun e => h ⟨by simp [e.2], by simp [e.1]⟩
    have h3 : ¬ (a ∈ r ∧ b ∈ r) := fun e => h ⟨by simp [e.1], by simp [e.2]⟩
    simp only [mk2, if_neg h1, if_neg h2, ih a b h3]
    rfl
theorem mk2_mark : ∀ (l : List Nat), l.Nodup → ∀ a b, a ∈ l → b ∈ l → mk2 l a b = mark l a b := by
  intro l
  induction l with
  | nil => intro _ a b h; simp at h
  | cons x r ih =>
    intro hn a b ha hb
    rw [List.nodup_cons] at hn
    have p0 : ∀ g, g = x → place (x :: r) g = 0 := fun g e => by rw [place_cons, if_pos e.symm]
    have p1 : ∀ g, g ≠ x → place (x :: r) g = place r g + 1 := fun g e => by rw [place_cons, if_neg (fun h => e h.symm)]
    unfold mark
    simp only [mk2]
    by_cases e1 : a = x
    · by_cases e2 : b = x
      · rw [p0 a e1, p0 b e2, mk2_none r a b (fun h => hn.1 (e1 ▸ h.1)), if_neg (fun h => hn.1 (e2 ▸ h.2)), if_neg (fun h => hn.1 (e1 ▸ h.2))]
        simp
      · have hbr : b ∈ r := by rcases List.mem_cons.1 hb with h | h; exact absurd h e2; exact h
        rw [p0 a e1, p1 b e2, mk2_none r a b (fun h => hn.1 (e1 ▸ h.1)), if_pos ⟨e1, hbr⟩, if_pos (by omega)]
        rfl
    · have har : a ∈ r := by rcases List.mem_cons.1 ha with h | h; exact absurd h e1; exact h
      by_cases e2 : b = x
      · rw [p1 a e1, p0 b e2, mk2_none r a b (fun h => hn.1 (e2 ▸ h.2)), if_neg (fun h => e1 h.1), if_pos ⟨e2, har⟩, if_neg (by omega), if_pos (by omega)]
        rfl
      · have hbr : b ∈ r := by rcases List.mem_cons.1 hb with h | h; exact absurd h e2; exact h
        rw [p1 a e1, p1 b e2, if_neg (fun h => e1 h.1), if_neg (fun h => e2 h.1), ih hn.2 a b har hbr]
        unfold mark
        simp only [Nat.add_lt_add_iff_right, Int.zero_add]
theorem rowM_eq (x a b : Nat) : ∀ (r : List Nat) (M : Mat), r.Nodup → x ∉ r → rowM M x r a b = M a b + (if a = x ∧ b ∈ r then 1 else if b = x ∧ a ∈ r then -1 else 0) := by
  intro r
  induction r with
  | nil => intro M _ _; simp [rowM]
  | cons y r ih =>
    intro M hn hx
    rw [List.nodup_cons] at hn
    have hxy : y ≠ x := fun e => hx (by simp [e])
    have hxr : x ∉ r := fun e => hx (by simp [e])
    show rowM (mstep x M y) x r a b = _
    rw [ih _ hn.2 hxr]
    unfold mstep
    by_cases e1 : a = x
    · subst e1
      by_cases e2 : b = y
      · subst e2
        simp [hn.1, hxy.symm, hxr]
      · simp [e2, hxy.symm, hxr]
    · by_cases e2 : b = x
      · subst e2
        by_cases e3 : a = y
        · subst e3
          simp [hn.1, hxy, e1]
          omega
        · simp [e3, e1, hxy]
      · simp [e1, e2]
theorem ballotM_eq (a b : Nat) : ∀ (l : List Nat) (M : Mat), l.Nodup → ballotM M l a b = M a b + mk2 l a b := by
  intro l
  induction l with
  | nil => intro M _; simp [ballotM, mk2]
  | cons x r ih =>
    intro M hn
    rw [List.nodup_cons] at hn
    show ballotM (rowM M x r) r a b = _
    rw [ih _ hn.2, rowM_eq x a b r M hn.2 hn.1, mk2]
    omega
theorem Ord.nodup {l : List Nat} {n : Nat} (h : Ord l n) : l.Nodup := by
  rw [List.nodup_iff_pairwise_ne, List.pairwise_iff_getElem]
  intro i j hi hj hij e
  have := h.inj i j (by rw [← h.len]; exact hi) (by rw [← h.len]; exact hj) (by simp [List.getD_eq_getElem?_getD, hi, hj, e])
  omega
theorem foldM_eq {n : Nat} {a b : Nat} (ha : a < n) (hb : b < n) : ∀ (W : List (List Nat)) (M : Mat), (∀ l ∈ W, Ord l n) → W.foldl ballotM M a b = M a b + marg W a b := by
  intro W
  induction W with
  | nil => intro M _; simp [marg]
  | cons l W ih =>
    intro M h
    have hl := h l (by simp)
    show W.foldl ballotM (ballotM M l) a b = _
    rw [ih _ (fun l' hl' => h l' (by simp [hl'])), ballotM_eq a b l M hl.nodup, mk2_mark l hl.nodup a b ((hl.mem a).2 ha) ((hl.mem b).2 hb)]
    simp only [marg, List.map_cons, List.sum_cons]
    omega
theorem BOk.mem {W : List (List Nat)} {v n : Nat} (h : BOk W v n) : ∀ l ∈ W, Ord l n := fun l hl => by
  obtain ⟨i, hi, rfl⟩ := List.getElem_of_mem hl
  have := h.rows i (by rw [← h.len]; exact hi)
  rwa [List.getD_eq_getElem?_getD, List.getElem?_eq_getElem hi] at this
theorem margM_eq {W : List (List Nat)} {v n a b : Nat} (hW : BOk W v n) (ha : a < n) (hb : b < n) : margM W a b = marg W a b := by
  rw [margM, foldM_eq ha hb W _ hW.mem]; simp
end Go.Proofs.Ytejijddfepgnkaa
