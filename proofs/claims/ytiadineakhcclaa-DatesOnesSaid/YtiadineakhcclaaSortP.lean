/-
  Insertion (plain): rows of a block, sorted so far.
-/
import Derived.Test.YtiadineakhcclaaBase
namespace Go.Proofs.Ytiadineakhcclaa
open Go.RowKit Go.Deep
set_option linter.unusedVariables false
set_option linter.unusedSimpArgs false

/-- Block g holds at its first n places what f says. -/
def RowF (w : World) (g n : Nat) (f : Nat → Value) : Prop := ∃ cs t, w.heap[g]? = some (.cells cs t (0, 0)) ∧ ∀ k, k < n → cs[k]? = some (f k)
theorem RowF.cell {w : World} {g n k : Nat} {f : Nat → Value} (h : RowF w g n f) (hk : k < n) : w.cell? ⟨g, k, none⟩ = some (f k) := by
  obtain ⟨cs, t, h1, h2⟩ := h
  rw [blk_cell h1, h2 k hk]
theorem RowF.free {w : World} {g n : Nat} {f : Nat → Value} (h : RowF w g n f) (k : Nat) : w.frozen? ⟨g, k, none⟩ = false := by
  obtain ⟨cs, t, h1, h2⟩ := h
  exact blk_free h1 k
theorem RowF.lt {w : World} {g n : Nat} {f : Nat → Value} (h : RowF w g n f) : g < w.heap.size := by
  obtain ⟨cs, t, h1, h2⟩ := h
  exact lt_of_block h1
theorem RowF.set {w : World} {g n i : Nat} {f : Nat → Value} (h : RowF w g n f) (hi : i < n) (v : Value) : RowF (w.setCell ⟨g, i, none⟩ v) g n (fun k => if k = i then v else f k) := by
  obtain ⟨cs, t, h1, h2⟩ := h
  refine ⟨cs.setIfInBounds i v, t, blk_set h1 i v, fun k hk => ?_⟩
  have hs : i < cs.size := by
    have := h2 i hi
    exact (Array.getElem?_eq_some_iff.1 this).1
  rw [Array.getElem?_setIfInBounds]
  by_cases e : k = i
  · subst e; rw [if_pos rfl, if_pos hs]; show _ = some (if k = k then v else f k); rw [if_pos rfl]
  · rw [if_neg (fun h => e h.symm)]; show _ = some (if k = i then v else f k); rw [if_neg e]; exact h2 k hk
theorem RowF.congr {w : World} {g n : Nat} {f f' : Nat → Value} (h : RowF w g n f) (e : ∀ k, k < n → f k = f' k) : RowF w g n f' := by
  obtain ⟨cs, t, h1, h2⟩ := h
  exact ⟨cs, t, h1, fun k hk => by rw [h2 k hk, e k hk]⟩
theorem RowF.of_block {w w' : World} {g n : Nat} {f : Nat → Value} (h : RowF w g n f) (e : w'.heap[g]? = w.heap[g]?) : RowF w' g n f := by
  obtain ⟨cs, t, h1, h2⟩ := h
  exact ⟨cs, t, e.trans h1, h2⟩

theorem grown_set {w w1 : World} {g : Nat} (h : w.grownBy w1 (some g)) (i : Nat) (v : Value) : w.grownBy (w1.setCell ⟨g, i, none⟩ v) (some g) :=
  ⟨h.os, h.tape, h.output, by simp; exact h.size, fun k hk hne => (blk_far v (fun e => hne (by rw [e]))).trans (h.block k hk hne)⟩

/-! Insertion. -/
/-- Before b: by key, then by number. -/
def ltK (key : Nat → Int) (a b : Nat) : Prop := key a < key b ∨ key a = key b ∧ a < b
/-- The row s, its i-th taken to place j. -/
def movF (s : Nat → Nat) (i j k : Nat) : Nat := if k < j then s k else if k = j then s i else if k ≤ i then s (k - 1) else s k
structure Sorted0 (key : Nat → Int) (s0 s : Nat → Nat) (n i : Nat) : Prop where
  le : i ≤ n
  low : ∀ k, k < i → ∃ m, m < i ∧ s k = s0 m
  high : ∀ k, i ≤ k → k < n → s k = s0 k
  sorted : ∀ a b, a < b → b < i → ltK key (s a) (s b)
theorem Sorted0.next {key : Nat → Int} {s0 s : Nat → Nat} {n i j : Nat} (h : Sorted0 key s0 s n i) (hi : i < n) (hasc : ∀ a b, a < b → b < n → s0 a < s0 b) (hj : j ≤ i) (hgt : ∀ k, j ≤ k → k < i → key (s i) < key (s k)) (hle : j = 0 ∨ key (s (j - 1)) ≤ key (s i)) :
    Sorted0 key s0 (movF s i j) n (i + 1) := by
  have hsi : s i = s0 i := h.high i (Nat.le_refl _) hi
  refine ⟨hi, fun k hk => ?_, fun k hk hkn => ?_, fun a b hab hb => ?_⟩
  · unfold movF
    by_cases e1 : k < j
    · rw [if_pos e1]
      obtain ⟨m, hm, e⟩ := h.low k (by omega)
      exact ⟨m, by omega, e⟩
    · rw [if_neg e1]
      by_cases e2 : k = j
      · rw [if_pos e2]; exact ⟨i, by omega, hsi⟩
      · rw [if_neg e2, if_pos (by omega)]
        obtain ⟨m, hm, e⟩ := h.low (k - 1) (by omega)
        exact ⟨m, by omega, e⟩
  · unfold movF
    rw [if_neg (by omega), if_neg (by omega), if_neg (by omega)]
    exact h.high k (by omega) hkn
  · have hval : ∀ k, k < i → s k < s i := fun k hk => by
      obtain ⟨m, hm, e⟩ := h.low k hk
      rw [e, hsi]; exact hasc m i hm hi
    unfold movF
    by_cases ha : a < j
    · rw [if_pos ha]
      by_cases hb1 : b < j
      · rw [if_pos hb1]; exact h.sorted a b hab (by omega)
      · rw [if_neg hb1]
        by_cases hb2 : b = j
        · rw [if_pos hb2]
          rcases hle with hle | hle
          · omega
          · have h1 : key (s a) ≤ key (s (j - 1)) := by
              by_cases e : a = j - 1
              · subst e; exact Int.le_refl _
              · rcases h.sorted a (j - 1) (by omega) (by omega) with h2 | h2
                · omega
                · omega
            have h2 := hval a (by omega)
            by_cases h3 : key (s a) < key (s i)
            · exact .inl h3
            · exact .inr ⟨by omega, h2⟩
        · rw [if_neg hb2, if_pos (by omega)]
          exact h.sorted a (b - 1) (by omega) (by omega)
    · rw [if_neg ha, if_neg (show ¬ b < j by omega), if_neg (show ¬ b = j by omega)]
      rw [if_pos (show b ≤ i by omega)]
      by_cases ha2 : a = j
      · rw [if_pos ha2]
        exact .inl (hgt (b - 1) (by omega) (by omega))
      · rw [if_neg ha2, if_pos (show a ≤ i by omega)]
        exact h.sorted (a - 1) (b - 1) (by omega) (by omega)
theorem movF_self (s : Nat → Nat) (i k : Nat) : movF s i i k = s k := by
  unfold movF
  by_cases h1 : k < i
  · rw [if_pos h1]
  · rw [if_neg h1]
    by_cases h2 : k = i
    · rw [if_pos h2, h2]
    · rw [if_neg h2, if_neg (by omega)]
theorem movF_swap (s : Nat → Nat) (i j k : Nat) (hj : j + 1 ≤ i) : (if k = j then movF s i (j + 1) (j + 1) else if k = j + 1 then movF s i (j + 1) j else movF s i (j + 1) k) = movF s i j k := by
  unfold movF
  rw [if_neg (show ¬ j + 1 < j + 1 by omega), if_pos rfl, if_pos (show j < j + 1 by omega)]
  by_cases h1 : k = j
  · rw [if_pos h1, if_neg (by omega), if_pos h1]
  · rw [if_neg h1]
    by_cases h2 : k = j + 1
    · rw [if_pos h2, if_neg (show ¬ k < j by omega), if_neg h1, if_pos (show k ≤ i by omega), h2]; rfl
    · rw [if_neg h2]
      by_cases h3 : k < j
      · rw [if_pos (show k < j + 1 by omega), if_pos h3]
      · rw [if_neg (show ¬ k < j + 1 by omega), if_neg h2, if_neg h3, if_neg h1]

/-- Block g, of c cells of type t, holds at its first n places what f says. -/
def RowO (w : World) (g n c : Nat) (t : TypeId) (f : Nat → Value) : Prop := ∃ cs, w.heap[g]? = some (.cells cs t (0, 0)) ∧ cs.size = c ∧ ∀ k, k < n → cs[k]? = some (f k)
section
variable {w w' : World} {g n c i k : Nat} {t : TypeId} {f f' : Nat → Value}
theorem RowO.row (h : RowO w g n c t f) : RowF w g n f := let ⟨cs, h1, _, h3⟩ := h; ⟨cs, t, h1, h3⟩
theorem RowO.cell (h : RowO w g n c t f) (hk : k < n) : w.cell? ⟨g, k, none⟩ = some (f k) := h.row.cell hk
theorem RowO.free (h : RowO w g n c t f) (k : Nat) : w.frozen? ⟨g, k, none⟩ = false := h.row.free k
theorem RowO.lt (h : RowO w g n c t f) : g < w.heap.size := h.row.lt
theorem RowO.set (h : RowO w g n c t f) (hi : i < n) (v : Value) : RowO (w.setCell ⟨g, i, none⟩ v) g n c t (fun k => if k = i then v else f k) := by
  obtain ⟨cs, h1, hc, h2⟩ := h
  refine ⟨cs.setIfInBounds i v, blk_set h1 i v, by simpa using hc, fun k hk => ?_⟩
  have hs : i < cs.size := by
    have := h2 i hi
    exact (Array.getElem?_eq_some_iff.1 this).1
  rw [Array.getElem?_setIfInBounds]
  by_cases e : k = i
  · subst e; rw [if_pos rfl, if_pos hs]; show _ = some (if k = k then v else f k); rw [if_pos rfl]
  · rw [if_neg (fun h => e h.symm)]; show _ = some (if k = i then v else f k); rw [if_neg e]; exact h2 k hk
theorem RowO.congr (h : RowO w g n c t f) (e : ∀ k, k < n → f k = f' k) : RowO w g n c t f' := by
  obtain ⟨cs, h1, hc, h2⟩ := h
  exact ⟨cs, h1, hc, fun k hk => by rw [h2 k hk, e k hk]⟩
theorem RowO.of_block (h : RowO w g n c t f) (e : w'.heap[g]? = w.heap[g]?) : RowO w' g n c t f := by
  obtain ⟨cs, h1, h2⟩ := h
  exact ⟨cs, e.trans h1, h2⟩
theorem rowO_own {base : Nat} {l : List Int} (h : w.ownsRow base t 1 (.slice (some ⟨g, 0, none⟩) n c) n (l.map (Value.int .i64))) : RowO w g n c t (fun k => .int .i64 (l.getD k 0)) := by
  have hl : l.length = n := by have := h.1; simpa using this
  rcases h.2 with ⟨hv, _⟩ | ⟨g', cap, cur, hv, hg, hh, h1, h2, h3, h4⟩
  · cases hv
  · injection hv with e1 _ e2; injection e1 with e1; injection e1 with e1
    subst e1; subst e2
    refine ⟨cur, hh, by simpa using h3, fun k hk => ?_⟩
    have h5 : (cur.toList.take (n * 1))[k]? = (l.map (Value.int .i64))[k]? := by rw [h4]
    rw [List.getElem?_take, if_pos (by omega), Array.getElem?_toList, List.getElem?_map] at h5
    rw [h5, List.getElem?_eq_getElem (by omega)]
    show some (Value.int .i64 _) = some (Value.int .i64 (l.getD k 0))
    rw [List.getD_eq_getElem?_getD, List.getElem?_eq_getElem (by omega)]; rfl
/-- The own row after its cells were changed. -/
theorem RowO.own {base : Nat} {xs : List Value} (h0 : w.ownsRow base t 1 (.slice (some ⟨g, 0, none⟩) n c) n xs) (h : RowO w' g n c t f) : w'.ownsRow base t 1 (.slice (some ⟨g, 0, none⟩) n c) n ((List.range n).map f) := by
  rcases h0.2 with ⟨hv, _⟩ | ⟨g', cap, cur, hv, hg, hh, h1, h2, h3, h4⟩
  · cases hv
  · injection hv with e1 _ e2; injection e1 with e1; injection e1 with e1
    subst e1; subst e2
    obtain ⟨cs, k1, k2, k3⟩ := h
    refine ⟨by simp, .inr ⟨g, c, cs, rfl, hg, k1, h1, h2, by simpa using k2, ?_⟩⟩
    apply List.ext_getElem?
    intro i
    rw [List.getElem?_take, Array.getElem?_toList, List.getElem?_map]
    by_cases hi : i < n
    · rw [if_pos (by omega), k3 i hi, List.getElem?_range hi]; rfl
    · rw [if_neg (by omega), List.getElem?_eq_none (by simp; omega)]; rfl
end
end Go.Proofs.Ytiadineakhcclaa
