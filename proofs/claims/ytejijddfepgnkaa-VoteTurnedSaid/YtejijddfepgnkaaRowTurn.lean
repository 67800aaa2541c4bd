/-
  Rows in blocks of their own, turned one after the other.
-/
import Derived.Test.YtejijddfepgnkaaRowBlks
import Derived.Test.YtejijddfepgnkaaYield
namespace Go.Proofs.Ytejijddfepgnkaa
open Go.RowKit
set_option linter.unusedVariables false
set_option linter.unusedSimpArgs false

/-- From world w0 to wr the first i rows have been turned, and nothing else. -/
structure Turned (w0 wr : World) (L : List (List Int)) (blk : Nat → Nat) (i : Nat) : Prop where
  os : wr.os = w0.os
  tape : wr.tape = w0.tape
  output : wr.output = w0.output
  size : wr.heap.size = w0.heap.size
  same : ∀ k, k < w0.heap.size → (∀ j, j < i → 0 < (L.getD j []).length → k ≠ blk j) → wr.heap[k]? = w0.heap[k]?
  row : ∀ j, j < i → 0 < (L.getD j []).length → IntsA wr wr.heap.size (some ⟨blk j, 0, none⟩) (L.getD j []).reverse
theorem Turned.zero (w0 : World) (L : List (List Int)) (blk : Nat → Nat) : Turned w0 w0 L blk 0 := ⟨rfl, rfl, rfl, rfl, fun _ _ _ => rfl, fun j hj => absurd hj (by omega)⟩
theorem Turned.empty {w0 wr : World} {L : List (List Int)} {blk : Nat → Nat} {i : Nat} (h : Turned w0 wr L blk i) (h0 : (L.getD i []).length = 0) : Turned w0 wr L blk (i + 1) :=
  ⟨h.os, h.tape, h.output, h.size, fun k hk hne => h.same k hk fun j hj h1 => hne j (by omega) h1, fun j hj h1 => by
    rcases (by omega : j < i ∨ j = i) with h2 | rfl
    · exact h.row j h2 h1
    · omega⟩
theorem Turned.step {w0 wr w' : World} {base lim i : Nat} {g : Option Nat} {vs : List Value} {L : List (List Int)} {blk : Nat → Nat} (hB : RowBlks w0 base g vs L blk lim) (h : Turned w0 wr L blk i) (hi : i < L.length) (h0 : 0 < (L.getD i []).length)
    (hI : IntsA w' w'.heap.size (some ⟨blk i, 0, none⟩) (L.getD i []).reverse) (hO : Only (fun k => k = blk i) wr w') (hs : w'.heap.size = wr.heap.size) : Turned w0 w' L blk (i + 1) := by
  refine ⟨hO.os.trans h.os, hO.tape.trans h.tape, hO.output.trans h.output, hs.trans h.size, fun k hk hne => ?_, fun j hj h1 => ?_⟩
  · rw [hO.block k (by rw [h.size]; exact hk) (hne i (by omega) h0)]
    exact h.same k hk fun j hj h1 => hne j (by omega) h1
  · rcases (by omega : j < i ∨ j = i) with h2 | rfl
    · refine (h.row j h2 h1).keepA fun b o e => ?_
      injection e with e; injection e with e
      subst e
      obtain ⟨A', c', _, _, h3⟩ := hB.row j (by omega)
      have hb := (h3 h1).2.2.1
      have hl := hB.lim_le
      have hz := h.size
      exact ⟨by omega, hO.block _ (by omega) (hB.apart j i h2 hi h1 h0)⟩
    · exact hI
/-- All turned: the rows that the outer block names. -/
theorem Turned.rows {w0 wr : World} {base lim q c : Nat} {e : TypeId} {X : Option Addr} {vs : List Value} {L : List (List Int)} {blk : Nat → Nat} (hown : w0.ownsRow base e 1 (.slice X q c) q vs) (hB : RowBlks w0 base (Value.slice X q c).ownBlock vs L blk lim) (hq : L.length = q)
    (h : Turned w0 wr L blk q) : RowsA wr wr.heap.size X (L.map List.reverse) := by
  intro i hi
  rw [List.length_map, hq] at hi
  have e1 : (L.map List.reverse).getD i [] = (L.getD i []).reverse := by
    simp only [List.getD_eq_getElem?_getD, List.getElem?_map]
    cases L[i]? <;> rfl
  obtain ⟨hl, h2⟩ := hown
  rcases h2 with ⟨hv, h0⟩ | ⟨g, cap, cur, hv, hg, hh, hc, hmx, hs, ht⟩
  · omega
  · injection hv with ea eb ec
    subst ea
    obtain ⟨A', c', h1, hle, h3⟩ := hB.row i (by omega)
    have hgs := lt_of_block hh
    have hgw : wr.heap[g]? = some (.cells cur e (0, 0)) := by
      rw [h.same g hgs (fun j hj h0 e9 => ?_)]
      · exact hh
      · obtain ⟨A2, c2, _, _, h4⟩ := hB.row j (by omega)
        exact (h4 h0).2.2.2.1 (by rw [← e9]; rfl)
    rw [e1, List.length_reverse]
    refine ⟨g, 0, A', c', rfl, by rw [h.size]; exact hgs, ?_, hle, ?_⟩
    · rw [blk_cell hgw, Nat.zero_add, ← h1, ← ht]
      simp [List.getElem?_take, hi]
    · by_cases h0 : 0 < (L.getD i []).length
      · rw [(h3 h0).1]; exact h.row i hi h0
      · intro k hk
        rw [List.length_reverse] at hk
        omega
end Go.Proofs.Ytejijddfepgnkaa
