/-
  Rows that lie in blocks of their own, each in another one.
-/
import Derived.Test.YtejijddfepgnkaaBase
namespace Go.Proofs.Ytejijddfepgnkaa
open Go.RowKit
set_option linter.unusedVariables false
set_option linter.unusedSimpArgs false

/-- Row i lies in block blk i (if it is not empty), below lim, not frozen, in no other row's block and not in g. -/
structure RowBlks (w : World) (base : Nat) (g : Option Nat) (vs : List Value) (L : List (List Int)) (blk : Nat → Nat) (lim : Nat) : Prop where
  len : vs.length = L.length
  lim_le : lim ≤ w.heap.size
  row : ∀ i, i < L.length → ∃ A' c', vs[i]? = some (.slice A' (L.getD i []).length c') ∧ (L.getD i []).length ≤ c' ∧ (0 < (L.getD i []).length → A' = some ⟨blk i, 0, none⟩ ∧ base ≤ blk i ∧ blk i < lim ∧ some (blk i) ≠ g ∧ (∃ cur t, w.heap[blk i]? = some (.cells cur t (0, 0))) ∧ IntsA w w.heap.size A' (L.getD i []))
  apart : ∀ i j, i < j → j < L.length → 0 < (L.getD i []).length → 0 < (L.getD j []).length → blk i ≠ blk j
section
variable {w w' : World} {base lim : Nat} {g : Option Nat} {vs : List Value} {L : List (List Int)} {blk : Nat → Nat}
theorem RowBlks.nil_ : RowBlks w base g [] [] blk 0 := ⟨rfl, Nat.zero_le _, fun i hi => absurd hi (by simp), fun i j _ hj => absurd hj (by simp)⟩
theorem RowBlks.keep (h : RowBlks w base g vs L blk lim) (hs : w.heap.size ≤ w'.heap.size) (hk : ∀ k, k < w.heap.size → some k ≠ g → w'.heap[k]? = w.heap[k]?) : RowBlks w' base g vs L blk lim :=
  ⟨h.len, Nat.le_trans h.lim_le hs, fun i hi => by
    obtain ⟨A', c', h1, h2, h3⟩ := h.row i hi
    refine ⟨A', c', h1, h2, fun h0 => ?_⟩
    obtain ⟨e, g1, g2, g3, ⟨cur, t, g4⟩, g5⟩ := h3 h0
    have hlt : blk i < w.heap.size := Nat.lt_of_lt_of_le g2 h.lim_le
    have hb := hk (blk i) hlt g3
    refine ⟨e, g1, g2, g3, ⟨cur, t, hb.trans g4⟩, g5.keepA fun b o e9 => ?_⟩
    rw [e] at e9
    injection e9 with e9; injection e9 with e9
    subst e9
    exact ⟨by omega, hb⟩, h.apart⟩
theorem RowBlks.snoc {w1 : World} {wb g' n c : Nat} {e : TypeId} {A : Option Addr} {l : List Int} (h : RowBlks w base g vs L blk lim) (hg : w.grownBy w1 g) (hg' : g = some g' ∨ w.heap.size ≤ g') (hn : l.length = n) (hc : n ≤ c)
    (hown : w.ownsRow wb e 1 (.slice A n c) n (l.map (Value.int .i64))) (hbw : base ≤ wb) (hlw : lim ≤ wb) (hgw : ∀ q, g = some q → q < wb) :
    ∃ blk', RowBlks w1 base (some g') (vs ++ [.slice A n c]) (L ++ [l]) blk' w.heap.size := by
  subst hn
  have hI := ints_of_own hown
  have hnew : ∃ b, 0 < l.length → A = some ⟨b, 0, none⟩ ∧ wb ≤ b ∧ b < w.heap.size ∧ ∃ cur t, w.heap[b]? = some (.cells cur t (0, 0)) := by
    obtain ⟨hl, h2⟩ := hown
    rcases h2 with ⟨hv, h0⟩ | ⟨b, cap, cur, hv, hb, hh, _⟩
    · exact ⟨0, fun h => by omega⟩
    · injection hv with e1 e2 e3
      exact ⟨b, fun _ => ⟨e1, hb, lt_of_block hh, cur, e, hh⟩⟩
  obtain ⟨b, hb⟩ := hnew
  refine ⟨fun i => if i < L.length then blk i else b, by simp [h.len], hg.size, fun i hi => ?_, fun i j hij hj h0i h0j => ?_⟩
  · simp only [List.length_append, List.length_cons, List.length_nil] at hi
    by_cases hlt : i < L.length
    · have e1 : (L ++ [l]).getD i [] = L.getD i [] := by simp [List.getD_eq_getElem?_getD, List.getElem?_append_left hlt]
      rw [e1]
      obtain ⟨A', c', h1, h2, h3⟩ := h.row i hlt
      refine ⟨A', c', by rw [List.getElem?_append_left (by rw [h.len]; exact hlt)]; exact h1, h2, fun h0 => ?_⟩
      obtain ⟨ea, g1, g2, g3, ⟨cur, t, g4⟩, g5⟩ := h3 h0
      have hb1 : blk i < w.heap.size := Nat.lt_of_lt_of_le g2 h.lim_le
      have hk := hg.block (blk i) hb1 g3
      rw [if_pos hlt]
      refine ⟨ea, g1, hb1, fun e9 => ?_, ⟨cur, t, hk.trans g4⟩, g5.keepA fun b' o e9 => ?_⟩
      · injection e9 with e9
        rcases hg' with h9 | h9
        · exact g3 (by rw [h9, e9])
        · omega
      · rw [ea] at e9
        injection e9 with e9; injection e9 with e9
        subst e9
        exact ⟨Nat.lt_of_lt_of_le hb1 hg.size, hk⟩
    · obtain rfl : i = L.length := by omega
      have e1 : (L ++ [l]).getD L.length [] = l := by simp [List.getD_eq_getElem?_getD]
      rw [e1]
      refine ⟨A, c, by rw [← h.len]; simp, hc, fun h0 => ?_⟩
      obtain ⟨ea, hbw', hbl, cur, t, hcu⟩ := hb h0
      have hne : some b ≠ g := fun e9 => by have := hgw b e9.symm; omega
      have hk := hg.block b hbl hne
      rw [if_neg (by omega)]
      refine ⟨ea, by omega, hbl, fun e9 => ?_, ⟨cur, t, hk.trans hcu⟩, hI.keepA fun b' o e9 => ?_⟩
      · injection e9 with e9
        rcases hg' with h9 | h9
        · exact hne (by rw [h9, e9])
        · omega
      · rw [ea] at e9
        injection e9 with e9; injection e9 with e9
        subst e9
        exact ⟨Nat.lt_of_lt_of_le hbl hg.size, hk⟩
  · simp only [List.length_append, List.length_cons, List.length_nil] at hj
    have hi : i < L.length := by omega
    have e1 : (L ++ [l]).getD i [] = L.getD i [] := by simp [List.getD_eq_getElem?_getD, List.getElem?_append_left hi]
    rw [e1] at h0i
    show (if i < L.length then blk i else b) ≠ (if j < L.length then blk j else b)
    rw [if_pos hi]
    by_cases hjl : j < L.length
    · have e2 : (L ++ [l]).getD j [] = L.getD j [] := by simp [List.getD_eq_getElem?_getD, List.getElem?_append_left hjl]
      rw [e2] at h0j
      rw [if_pos hjl]
      exact h.apart i j hij hjl h0i h0j
    · obtain rfl : j = L.length := by omega
      have e2 : (L ++ [l]).getD L.length [] = l := by simp [List.getD_eq_getElem?_getD]
      rw [e2] at h0j
      rw [if_neg (by omega)]
      obtain ⟨A', c', h1, h2, h3⟩ := h.row i hi
      have := (h3 h0i).2.2.1
      have := (hb h0j).2.1
      omega
end
end Go.Proofs.Ytejijddfepgnkaa
