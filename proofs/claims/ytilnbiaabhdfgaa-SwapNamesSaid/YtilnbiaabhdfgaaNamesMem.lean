/-
  A table made with its length, whose rows are appended to one by one, in their cells.
-/
import Derived.Test.YtilnbiaabhdfgaaBase
namespace Go.Proofs.Ytilnbiaabhdfgaa
open Go.RowKit
set_option linter.unusedVariables false
set_option linter.unusedSimpArgs false

/-- The rows so far. -/
def NRows (w : World) (zb n : Nat) (cur : Array Value) (X : Nat → List Int) : Prop := w.heap[zb]? = some (.cells cur 23 (0, 0)) ∧ cur.size = n ∧
  ∀ j, j < n → ∃ A c, cur[j]? = some (.slice A (X j).length c) ∧ (X j).length ≤ c ∧ (X j = [] → A = none ∧ c = 0) ∧ IntsA w w.heap.size A (X j) ∧ ∀ b o, A = some ⟨b, o, none⟩ → b ≠ zb
/-- One row, as it grows. -/
structure NRow (wo w : World) (zb n j : Nat) (cur : Array Value) (v : Value) (l : List Int) : Prop where
  base : wo.heap[zb]? = some (.cells cur 23 (0, 0))
  size : cur.size = n
  blk : w.heap[zb]? = some (.cells (cur.setIfInBounds j v) 23 (0, 0))
  own : w.ownsRow wo.heap.size 3 1 v l.length (l.map (Value.int .i64))
  gr : wo.grownBy w (some zb)

theorem NRows.start (w : World) (n : Nat) : NRows (w.alloc (.cells (madeCells #[.slice none 0 0] n) 23)) w.heap.size n (madeCells #[.slice none 0 0] n) (fun _ => []) :=
  ⟨alloc_new _ _ _ rfl, size_madeCells _ _, fun j hj => ⟨none, 0, by simp [madeCells, hj, Nat.mod_one], Nat.le_refl _, fun _ => ⟨rfl, rfl⟩, IntsA.nil_, fun b o e => by cases e⟩⟩
theorem NRows.keep {w w' : World} {zb n : Nat} {cur : Array Value} {X : Nat → List Int} (h : NRows w zb n cur X) (hb : Below w.heap.size w w') : NRows w' zb n cur X := by
  obtain ⟨h1, h2, h3⟩ := h
  refine ⟨(hb.block zb (lt_of_block h1)).trans h1, h2, fun j hj => ?_⟩
  obtain ⟨A, c, e1, e2, e3, e4, e5⟩ := h3 j hj
  exact ⟨A, c, e1, e2, e3, e4.next hb, e5⟩
theorem NRow.start {w : World} {zb n j : Nat} {cur : Array Value} {X : Nat → List Int} (h : NRows w zb n cur X) (hj : j < n) (h0 : X j = []) : NRow w w zb n j cur (.slice none 0 0) [] := by
  obtain ⟨h1, h2, h3⟩ := h
  obtain ⟨A, c, e1, e2, e3, e4, e5⟩ := h3 j hj
  obtain ⟨rfl, rfl⟩ := e3 h0
  rw [h0] at e1
  refine ⟨h1, h2, ?_, World.ownsRow_nil _ _ _ _, World.grownBy.refl _ _⟩
  rw [h1]
  congr 2
  apply Array.ext
  · simp
  · intro i hi hi2
    rw [Array.getElem_setIfInBounds]
    split
    · rename_i e
      subst e
      rw [Array.getElem?_eq_getElem (by omega)] at e1
      injection e1
    · rfl
theorem NRow.step {wo wr w1 : World} {zb n j g cg : Nat} {cur : Array Value} {v : Value} {l : List Int} {x : Int} (h : NRow wo wr zb n j cur v l)
    (hown : w1.ownsRow wo.heap.size 3 1 (.slice (some ⟨g, 0, none⟩) (l.length + 1) cg) (l.length + 1) (l.map (Value.int .i64) ++ [.int .i64 x])) (hg : v.ownBlock = some g ∨ wr.heap.size ≤ g) (hgr : wr.drew.grownBy w1 v.ownBlock) :
    NRow wo (w1.setCell ⟨zb, j, none⟩ (.slice (some ⟨g, 0, none⟩) (l.length + 1) cg)) zb n j cur (.slice (some ⟨g, 0, none⟩) (l.length + 1) cg) (l ++ [x]) := by
  have hz := lt_of_block h.base
  have hs := h.gr.size
  have hob : ∀ q, v.ownBlock = some q → wo.heap.size ≤ q := fun q hq => (own_lt h.own q hq).1
  have hg2 : wo.heap.size ≤ g := by
    rcases hg with hg | hg
    · exact hob g hg
    · omega
  have hblk : w1.heap[zb]? = some (.cells (cur.setIfInBounds j v) 23 (0, 0)) := (hgr.block zb (by show zb < wr.heap.size; omega) (fun e => by have := hob zb e.symm; omega)).trans h.blk
  refine ⟨h.base, h.size, ?_, ?_, ?_⟩
  · rw [blk_set hblk]
    congr 2
    simp
  · simp only [List.length_append, List.length_cons, List.length_nil, List.map_append, List.map_cons, List.map_nil]
    exact own_far hown (fun gg hgg => by have e9 : g = gg := (by simpa [Value.ownBlock] using hgg); omega) _
  · have h1 : wo.grownBy w1 (some zb) := ⟨hgr.os.trans h.gr.os, hgr.tape.trans h.gr.tape, hgr.output.trans h.gr.output, Nat.le_trans hs hgr.size, fun i hi hne => (hgr.block i (by show i < wr.heap.size; omega) (fun e => by have := hob i e.symm; omega)).trans (h.gr.block i hi hne)⟩
    exact ⟨h1.os, h1.tape, h1.output, by have := h1.size; simpa [World.setCell] using this, fun i hi hne => (blk_far _ (fun e => hne (by rw [e]))).trans (h1.block i hi hne)⟩
theorem NRows.row {wo w : World} {zb n j : Nat} {cur : Array Value} {v : Value} {l : List Int} {X : Nat → List Int} (h : NRows wo zb n cur X) (hr : NRow wo w zb n j cur v l) (hj : j < n) (hl : l ≠ []) :
    ∃ cur', NRows w zb n cur' (fun i => if i = j then l else X i) := by
  obtain ⟨h1, h2, h3⟩ := h
  obtain ⟨A, c, hv, hle, _⟩ := own_slice hr.own
  subst hv
  have hz := lt_of_block h1
  have hs := hr.gr.size
  refine ⟨_, hr.blk, by simp [h2], fun i hi => ?_⟩
  dsimp only
  by_cases e : i = j
  · subst e
    rw [if_pos rfl]
    refine ⟨A, c, Array.getElem?_setIfInBounds_self_of_lt (by omega), hle, fun h => absurd h hl, ints_of_own hr.own, fun b o e => ?_⟩
    subst e
    obtain ⟨g, cap, hA, hg, _⟩ := own_form hr.own (by rcases l with _ | _; exact absurd rfl hl; simp)
    injection hA with e1 _ _
    injection e1 with e1
    injection e1 with e1 _ _
    omega
  · rw [if_neg e]
    obtain ⟨A', c', e1, e2, e3, e4, e5⟩ := h3 i hi
    refine ⟨A', c', by rw [Array.getElem?_setIfInBounds_ne (fun h => e h.symm)]; exact e1, e2, e3, ?_, e5⟩
    by_cases h0 : X i = []
    · rw [h0]; exact IntsA.nil_
    · refine e4.keepA fun b o eb => ?_
      obtain ⟨b', o', x, eA, hb', _⟩ := e4.at_ (k := 0) (by rcases hX : X i with _ | _; exact absurd hX h0; simp)
      rw [eb] at eA
      injection eA with eA
      injection eA with eA _ _
      have := e5 b o eb
      exact ⟨by omega, hr.gr.block b (by omega) (fun e => by injection e with e; exact this e)⟩
theorem NRows.rows {w : World} {zb n : Nat} {cur : Array Value} {X : Nat → List Int} (h : NRows w zb n cur X) : RowsA w w.heap.size (some ⟨zb, 0, none⟩) ((List.range n).map X) := by
  obtain ⟨h1, h2, h3⟩ := h
  intro j hj
  simp only [List.length_map, List.length_range] at hj
  obtain ⟨A, c, e1, e2, e3, e4, e5⟩ := h3 j hj
  have e : ((List.range n).map X).getD j [] = X j := by simp [List.getD_eq_getElem?_getD, hj]
  rw [e]
  exact ⟨zb, 0, A, c, rfl, lt_of_block h1, by rw [Nat.zero_add]; exact (blk_cell h1 j).trans e1, e2, e4⟩
end Go.Proofs.Ytilnbiaabhdfgaa
