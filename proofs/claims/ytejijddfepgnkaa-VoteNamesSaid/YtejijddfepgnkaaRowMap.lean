/-
  Rows in blocks of their own, each written anew in its place, one after the other.
-/
import Derived.Test.YtejijddfepgnkaaRowBlks
import Derived.Test.YtejijddfepgnkaaYield
namespace Go.Proofs.Ytejijddfepgnkaa
open Go.RowKit
set_option linter.unusedVariables false
set_option linter.unusedSimpArgs false

theorem row_cap {w : World} {B B' : Nat} {A : Option Addr} {l : List Int} (h : IntsA w B A l) (hB : ∀ b o, A = some ⟨b, o, none⟩ → b < B') : IntsA w B' A l := h.keepA fun b o e => ⟨hB b o e, rfl⟩
/-- From world w0 to wr the first i rows have been turned, and nothing else. -/
structure Mapped (w0 wr : World) (L L' : List (List Int)) (blk : Nat → Nat) (i : Nat) : Prop where
  os : wr.os = w0.os
  tape : wr.tape = w0.tape
  output : wr.output = w0.output
  size : wr.heap.size = w0.heap.size
  same : ∀ k, k < w0.heap.size → (∀ j, j < i → 0 < (L.getD j []).length → k ≠ blk j) → wr.heap[k]? = w0.heap[k]?
  row : ∀ j, j < i → 0 < (L.getD j []).length → IntsA wr wr.heap.size (some ⟨blk j, 0, none⟩) (L'.getD j [])
theorem Mapped.zero (w0 : World) (L L' : List (List Int)) (blk : Nat → Nat) : Mapped w0 w0 L L' blk 0 := ⟨rfl, rfl, rfl, rfl, fun _ _ _ => rfl, fun j hj => absurd hj (by omega)⟩
theorem Mapped.empty {w0 wr : World} {L L' : List (List Int)} {blk : Nat → Nat} {i : Nat} (h : Mapped w0 wr L L' blk i) (h0 : (L.getD i []).length = 0) : Mapped w0 wr L L' blk (i + 1) :=
  ⟨h.os, h.tape, h.output, h.size, fun k hk hne => h.same k hk fun j hj h1 => hne j (by omega) h1, fun j hj h1 => by
    rcases (by omega : j < i ∨ j = i) with h2 | rfl
    · exact h.row j h2 h1
    · omega⟩
theorem Mapped.step {w0 wr w' : World} {base lim i : Nat} {g : Option Nat} {vs : List Value} {L L' : List (List Int)} {blk : Nat → Nat} (hB : RowBlks w0 base g vs L blk lim) (h : Mapped w0 wr L L' blk i) (hi : i < L.length) (h0 : 0 < (L.getD i []).length)
    (hI : IntsA w' w'.heap.size (some ⟨blk i, 0, none⟩) (L'.getD i [])) (hO : Only (fun k => k = blk i) wr w') (hs : w'.heap.size = wr.heap.size) : Mapped w0 w' L L' blk (i + 1) := by
  refine ⟨hO.os.trans h.os, hO.tape.trans h.tape, hO.output.trans h.output, hs.trans h.size, fun k hk hne => ?_, fun j hj h1 => ?_⟩
  · rw [hO.block k (by rw [h.size]; exact hk) (hne i (by omega) h0)]
    exact h.same k hk fun j hj h1 => hne j (by omega) h1
  · rcases (by omega : j < i ∨ j = i) with h2 | rfl
    · refine (h.row j h2 h1).keepA fun b o e => ?_
      injection e with e; injection e with e
      subst e
      obtain ⟨A', c', _, _, h3⟩ := hB.row j (by omega)
      have hb := (h3 h1).2.2.1
      have hl := hB.lim_le
      have hz := h.size
      exact ⟨by omega, hO.block _ (by omega) (hB.apart j i h2 hi h1 h0)⟩
    · exact hI
/-- A row of the rows that are being turned, as the walk reads it. -/
theorem Mapped.at_ {w0 wr : World} {base lim q c i : Nat} {e : TypeId} {X : Option Addr} {vs : List Value} {L L' : List (List Int)} {blk : Nat → Nat} (hown : w0.ownsRow base e 1 (.slice X q c) q vs) (hB : RowBlks w0 base (Value.slice X q c).ownBlock vs L blk lim) (hq : L.length = q)
    (h : Mapped w0 wr L L' blk i) (hi : i < q) :
    ∃ g o A' n' c', X = some ⟨g, o, none⟩ ∧ g < w0.heap.size ∧ wr.cell? ⟨g, o + i, none⟩ = some (.slice A' n' c') ∧ Hid ((L.getD i []).length = n') ∧ n' ≤ c' ∧
      (0 < n' → A' = some ⟨blk i, 0, none⟩ ∧ blk i < wr.heap.size ∧ (∃ cur t, wr.heap[blk i]? = some (.cells cur t (0, 0))) ∧ IntsA wr wr.heap.size A' (L.getD i [])) := by
  obtain ⟨hl, h2⟩ := hown
  rcases h2 with ⟨hv, h0⟩ | ⟨g, cap, cur, hv, hg, hh, hc, hmx, hs, ht⟩
  · omega
  · injection hv with ea eb ec
    subst ea
    obtain ⟨A', c', h1, hle, h3⟩ := hB.row i (by omega)
    have hgs := lt_of_block hh
    have hgw : wr.heap[g]? = some (.cells cur e (0, 0)) := by
      rw [h.same g hgs (fun j hj h0 e9 => ?_)]
      · exact hh
      · obtain ⟨A2, c2, _, _, h4⟩ := hB.row j (by omega)
        exact (h4 h0).2.2.2.1 (by rw [← e9]; rfl)
    refine ⟨g, 0, A', _, c', rfl, hgs, ?_, rfl, hle, fun h0 => ?_⟩
    · rw [blk_cell hgw, Nat.zero_add, ← h1, ← ht]
      simp [List.getElem?_take, hi]
    · obtain ⟨hA, hb1, hb2, hb3, ⟨cu, t, hb4⟩, hI⟩ := h3 h0
      have hbs : blk i < w0.heap.size := Nat.lt_of_lt_of_le hb2 hB.lim_le
      have hsame : wr.heap[blk i]? = w0.heap[blk i]? := h.same _ hbs fun j hj h9 e9 => hB.apart j i hj (by omega) h9 h0 e9.symm
      have hz := h.size
      refine ⟨hA, by omega, ⟨cu, t, hsame.trans hb4⟩, hI.keepA fun b o e9 => ?_⟩
      rw [hA] at e9
      injection e9 with e9; injection e9 with e9
      subst e9
      exact ⟨by omega, hsame⟩
/-- The rows turned, below a bound. -/
theorem Mapped.rowsB {w0 wr : World} {base lim q c B : Nat} {e : TypeId} {X : Option Addr} {vs : List Value} {L L' : List (List Int)} {blk : Nat → Nat} (hown : w0.ownsRow base e 1 (.slice X q c) q vs) (hB : RowBlks w0 base (Value.slice X q c).ownBlock vs L blk lim) (hq : L.length = q) (hq' : L'.length = q) (hle : ∀ j, j < q → (L'.getD j []).length = (L.getD j []).length)
    (h : Mapped w0 wr L L' blk q) (hlB : lim ≤ B) (hgB : ∀ g, (Value.slice X q c).ownBlock = some g → g < B) : RowsA wr B X L' := by
  intro i hi
  rw [hq'] at hi
  have e1 := hle i hi
  obtain ⟨hl, h2⟩ := hown
  rcases h2 with ⟨hv, h0⟩ | ⟨g, cap, cur, hv, hg, hh, hc, hmx, hs, ht⟩
  · omega
  · injection hv with ea eb ec
    subst ea
    obtain ⟨A', c', h1, hle, h3⟩ := hB.row i (by omega)
    have hgs := lt_of_block hh
    have hgw : wr.heap[g]? = some (.cells cur e (0, 0)) := by
      rw [h.same g hgs (fun j hj h0 e9 => ?_)]
      · exact hh
      · obtain ⟨A2, c2, _, _, h4⟩ := hB.row j (by omega)
        exact (h4 h0).2.2.2.1 (by rw [← e9]; rfl)
    rw [e1]
    refine ⟨g, 0, A', c', rfl, hgB g rfl, ?_, hle, ?_⟩
    · rw [blk_cell hgw, Nat.zero_add, ← h1, ← ht]
      simp [List.getElem?_take, hi]
    · by_cases h0 : 0 < (L.getD i []).length
      · rw [(h3 h0).1]
        refine row_cap (h.row i hi h0) fun b o e9 => ?_
        injection e9 with e9; injection e9 with e9
        have := (h3 h0).2.2.1
        omega
      · intro k hk
        rw [e1] at hk
        omega
theorem Mapped.below {w0 wr : World} {base lim i : Nat} {g : Option Nat} {vs : List Value} {L L' : List (List Int)} {blk : Nat → Nat} (h : Mapped w0 wr L L' blk i) (hB : RowBlks w0 base g vs L blk lim) (hbs : base ≤ w0.heap.size) (hi : i ≤ L.length) : Below base w0 wr :=
  ⟨h.os, h.tape, h.output, by rw [h.size]; exact Nat.le_refl _, fun k hk => h.same k (by omega) fun j hj h0 e => by
    obtain ⟨A', c', _, _, h3⟩ := hB.row j (by omega)
    have := (h3 h0).2.1
    omega⟩

theorem row_own_keep {w w' : World} {base n : Nat} {e : TypeId} {v : Value} {xs : List Value} (h : w.ownsRow base e 1 v n xs) (hb : Below w.heap.size w w') : w'.ownsRow base e 1 v n xs :=
  h.kept (row := none) (w' := w') ⟨hb.os, hb.tape, hb.output, hb.size, fun k hk _ => hb.block k hk⟩ (by
    cases h : v.ownBlock
    · exact .inl rfl
    · exact .inr (by simp))
/-- A row of which the first j numbers are new. -/
def mix (l l' : List Int) (j : Nat) : List Int := l'.take j ++ l.drop j
theorem mix_zero (l l' : List Int) : mix l l' 0 = l := by simp [mix]
theorem mix_all {l l' : List Int} (h : l'.length = l.length) : mix l l' l.length = l' := by
  rw [mix, ← h, List.take_length, h, List.drop_length, List.append_nil]
theorem mix_len {l l' : List Int} {j : Nat} (h : l'.length = l.length) (hj : j ≤ l.length) : (mix l l' j).length = l.length := by
  rw [mix, List.length_append, List.length_take, List.length_drop, h]; omega
theorem mix_getD {l l' : List Int} {i j : Nat} (h : l'.length = l.length) (hj : j ≤ l.length) : (mix l l' j).getD i 0 = if i < j then l'.getD i 0 else l.getD i 0 := by
  simp only [mix, List.getD_eq_getElem?_getD]
  by_cases hi : i < j
  · rw [List.getElem?_append_left (by rw [List.length_take]; omega), List.getElem?_take, if_pos hi, if_pos hi]
  · rw [List.getElem?_append_right (by rw [List.length_take]; omega), List.length_take, List.getElem?_drop, if_neg hi, show j + (i - min j l'.length) = i by omega]
/-- Row i, whose first j numbers have been written. -/
structure RowPart (w0 wr : World) (b : Nat) (l l' : List Int) (j : Nat) : Prop where
  only : Only (fun k => k = b) w0 wr
  size : wr.heap.size = w0.heap.size
  ints : IntsA wr wr.heap.size (some ⟨b, 0, none⟩) (mix l l' j)
  cells : ∃ cu t, wr.heap[b]? = some (.cells cu t (0, 0))
theorem RowPart.zero {w0 : World} {b : Nat} {l l' : List Int} (h : IntsA w0 w0.heap.size (some ⟨b, 0, none⟩) l) (hc : ∃ cu t, w0.heap[b]? = some (.cells cu t (0, 0))) : RowPart w0 w0 b l l' 0 :=
  ⟨Only.refl _ _, rfl, by rw [mix_zero]; exact h, hc⟩
theorem RowPart.at_ {w0 wr : World} {b j : Nat} {l l' : List Int} (h : RowPart w0 wr b l l' j) (hl : l'.length = l.length) (hj : j < l.length) : b < wr.heap.size ∧ wr.cell? ⟨b, j, none⟩ = some (.int .i64 (l.getD j 0)) ∧ wr.frozen? ⟨b, j, none⟩ = false := by
  obtain ⟨b', o', e, h1, h2⟩ := h.ints j (by rw [mix_len hl (by omega)]; exact hj)
  injection e with e; injection e with e1 e2
  subst e1; subst e2
  obtain ⟨cu, t, hc⟩ := h.cells
  rw [Nat.zero_add, mix_getD hl (by omega), if_neg (Nat.lt_irrefl _)] at h2
  exact ⟨h1, h2, blk_free hc j⟩
theorem RowPart.step {w0 wr : World} {b j : Nat} {l l' : List Int} (h : RowPart w0 wr b l l' j) (hl : l'.length = l.length) (hj : j < l.length) : RowPart w0 (wr.setCell ⟨b, j, none⟩ (.int .i64 (l'.getD j 0))) b l l' (j + 1) := by
  obtain ⟨cu, t, hc⟩ := h.cells
  have hs : (wr.setCell ⟨b, j, none⟩ (.int .i64 (l'.getD j 0))).heap.size = wr.heap.size := by simp [World.setCell]
  refine ⟨h.only.setCell (.inl rfl) _, hs.trans h.size, fun i hi => ?_, ⟨_, _, blk_set hc j _⟩⟩
  rw [mix_len hl (by omega)] at hi
  obtain ⟨b', o', e, h1, h2⟩ := h.ints i (by rw [mix_len hl (by omega)]; exact hi)
  injection e with e; injection e with e1 e2
  subst e1; subst e2
  rw [mix_getD hl (by omega)] at h2 ⊢
  refine ⟨b, 0, rfl, by rw [hs]; exact h1, ?_⟩
  rw [Nat.zero_add, blk_cell hc] at h2
  rw [Nat.zero_add, blk_cell (blk_set hc j _)]
  by_cases e : i = j
  · subst e
    have hlt : i < cu.size := by
      rcases Nat.lt_or_ge i cu.size with h9 | h9
      · exact h9
      · rw [Array.getElem?_eq_none h9] at h2; cases h2
    rw [Array.getElem?_setIfInBounds_self_of_lt hlt, if_pos (by omega)]
  · rw [Array.getElem?_setIfInBounds_ne (fun h9 => e h9.symm), h2]
    by_cases hlt : i < j
    · rw [if_pos hlt, if_pos (by omega)]
    · rw [if_neg hlt, if_neg (by omega)]
theorem RowPart.full {w0 wr : World} {b : Nat} {l l' : List Int} (h : RowPart w0 wr b l l' l.length) (hl : l'.length = l.length) : IntsA wr wr.heap.size (some ⟨b, 0, none⟩) l' := by
  have := h.ints; rwa [mix_all hl] at this
end Go.Proofs.Ytejijddfepgnkaa
