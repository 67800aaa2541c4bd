/-
  swap.Lie: the step of its search.
-/
import Derived.Test.YtilnbiaabhdfgaaBetter
import Derived.Test.YtilnbiaabhdfgaaOutcome
import Derived.Deep.RegionHeld3
namespace Go.Proofs.Ytilnbiaabhdfgaa
open Go.RowKit
set_option linter.unusedVariables false
set_option linter.unusedSimpArgs false

/-- What has been found lies in fb; the lies' row of rows is block zb, of which cell i may hold anything; all else below fb is as it was in w0. -/
structure LMem (n i fb zb : Nat) (rv : Nat → Value) (w0 : World) (A : Option Addr) (c : Nat) (F : Nat → Prop) (s : Option (List Nat)) (w : World) : Prop where
  box : w.heap[fb]? = some (.cells #[.slice A (lenO s) c] 23 (0, 0))
  no : s = none → A = none ∧ c = 0
  yes : ∀ l, s = some l → 1 ≤ l.length ∧ l.length ≤ c ∧ IntsA w w.heap.size A (up l)
  own : ∀ k, F k ↔ k = fb ∨ k = zb ∨ ∃ o, A = some ⟨k, o, none⟩
  old : ∀ k, k < fb → k ≠ zb → w.heap[k]? = w0.heap[k]?
  zrow : ∃ cur, w.heap[zb]? = some (.cells cur 23 (0, 0)) ∧ n ≤ cur.size ∧ ∀ j, j < n → j ≠ i → cur[j]? = some (rv j)
  off : ∀ o, A ≠ some ⟨zb, o, none⟩
def LInv (n i fb zb : Nat) (rv : Nat → Value) (w0 : World) (F : Nat → Prop) (s : Option (List Nat)) (w : World) : Prop := ∃ A c, LMem n i fb zb rv w0 A c F s w

section
variable {n i fb zb c : Nat} {rv : Nat → Value} {w0 w w' w1 : World} {A : Option Addr} {F : Nat → Prop} {s : Option (List Nat)}
theorem LMem.addr (h : LMem n i fb zb rv w0 A c F s w) {l : List Nat} (hs : s = some l) : ∃ b o, A = some ⟨b, o, none⟩ ∧ b < w.heap.size := by
  obtain ⟨h1, _, h2⟩ := h.yes l hs
  obtain ⟨b, o, e, hb, _⟩ := h2 0 (by rw [up_length]; omega)
  exact ⟨b, o, e, hb⟩
theorem LMem.lt (h : LMem n i fb zb rv w0 A c F s w) : ∀ k, F k → k < w.heap.size := fun k hk => by
  rcases (h.own k).1 hk with rfl | rfl | ⟨o, e⟩
  · exact lt_of_block h.box
  · obtain ⟨cur, hz, _⟩ := h.zrow; exact lt_of_block hz
  · cases hs : s with
    | none => rw [(h.no hs).1] at e; cases e
    | some l =>
      obtain ⟨b, o', e', hb⟩ := h.addr hs
      rw [e] at e'
      injection e' with e'
      injection e' with e' _ _
      omega
theorem LMem.stab (h : LMem n i fb zb rv w0 A c F s w) (hk : ∀ k, F k ∨ k < fb + 1 → w'.heap[k]? = w.heap[k]?) (hs : w.heap.size ≤ w'.heap.size) : LMem n i fb zb rv w0 A c F s w' := by
  refine ⟨(hk fb (.inr (by omega))).trans h.box, h.no, fun l hl => ⟨(h.yes l hl).1, (h.yes l hl).2.1, (h.yes l hl).2.2.keepA fun b o e => ?_⟩, h.own, fun k hkf hkz => (hk k (.inr (by omega))).trans (h.old k hkf hkz), ?_, h.off⟩
  · have hF : F b := (h.own b).2 (.inr (.inr ⟨o, e⟩))
    exact ⟨by have := h.lt b hF; omega, hk b (.inl hF)⟩
  · obtain ⟨cur, hz, h1, h2⟩ := h.zrow
    exact ⟨cur, (hk zb (.inl ((h.own zb).2 (.inr (.inl rfl))))).trans hz, h1, h2⟩
theorem LMem.next (h : LMem n i fb zb rv w0 A c F s w) (hb : Below w.heap.size w w') : LMem n i fb zb rv w0 A c F s w' :=
  h.stab (fun k hk => hb.block k (by
    rcases hk with hk | hk
    · exact h.lt k hk
    · have := lt_of_block h.box; omega)) hb.size
/-- Another row is laid into cell i. -/
theorem LMem.lay (h : LMem n i fb zb rv w0 A c F s w) (hne : zb ≠ fb) (u : Value) : LMem n i fb zb rv w0 A c F s (w.setCell ⟨zb, i, none⟩ u) := by
  obtain ⟨cur, hz, h1, h2⟩ := h.zrow
  refine ⟨(blk_far _ (Ne.symm hne)).trans h.box, h.no, fun l hl => ⟨(h.yes l hl).1, (h.yes l hl).2.1, (h.yes l hl).2.2.keepA fun b o e => ?_⟩, h.own, fun k hkf hkz => (blk_far _ hkz).trans (h.old k hkf hkz), ⟨_, blk_set hz i u, by simpa using h1, fun j hj hji => ?_⟩, h.off⟩
  · have hF : F b := (h.own b).2 (.inr (.inr ⟨o, e⟩))
    refine ⟨by have := h.lt b hF; simpa [World.setCell] using this, blk_far _ (fun e2 => h.off o (by rw [e, e2]))⟩
  · rw [Array.getElem?_setIfInBounds_ne (fun e => hji e.symm)]; exact h2 j hj hji
/-- Something is found: its copy is stored. -/
theorem LMem.put (h : LMem n i fb zb rv w0 A c F s w) (hzf : zb < fb) (hb : Below w.heap.size w w1) {l : List Nat} {A' : Option Addr} {m c' : Nat} (hn : l.length = m) (h1 : 1 ≤ m) (hc : m ≤ c') (hI : IntsA w1 w1.heap.size A' (up l)) (hnew : ∀ g, (Value.slice A' m c').ownBlock = some g → w.heap.size ≤ g) :
    ∃ F', LMem n i fb zb rv w0 A' c' F' (some l) (w1.setCell ⟨fb, 0, none⟩ (.slice A' m c')) ∧ (∀ k, F' k → F k ∨ w.heap.size ≤ k) := by
  subst hn
  have hlt := lt_of_block h.box
  have h2 := h.next hb
  have hnew' : ∀ b o, A' = some ⟨b, o, none⟩ → w.heap.size ≤ b := fun b o e => hnew b (by subst e; rfl)
  refine ⟨fun k => k = fb ∨ k = zb ∨ ∃ o, A' = some ⟨k, o, none⟩, ⟨blk_set h2.box 0 _, (fun e => nomatch e), fun l' e => ?_, fun k => Iff.rfl, fun k hk hkz => (blk_far _ (by omega)).trans (h2.old k hk hkz), ?_, fun o e => ?_⟩, fun k hk => ?_⟩
  · injection e with e
    subst e
    refine ⟨h1, hc, hI.keepA fun b o e => ?_⟩
    have hb2 := hnew' b o e
    obtain ⟨b', o', e', hb', _⟩ := hI 0 (by rw [up_length]; omega)
    rw [e] at e'
    injection e' with e'
    injection e' with e' _ _
    exact ⟨by rw [e']; simpa [World.setCell] using hb', blk_far _ (by omega)⟩
  · obtain ⟨cur, hz, h3, h4⟩ := h2.zrow
    exact ⟨cur, (blk_far _ (by omega)).trans hz, h3, h4⟩
  · have := hnew' zb o e; omega
  · rcases hk with rfl | rfl | ⟨o, e⟩
    · exact .inl ((h.own _).2 (.inl rfl))
    · exact .inl ((h.own _).2 (.inr (.inl rfl)))
    · exact .inr (hnew' k o e)
end

/-- How the memory stands when Lie's orders begin. -/
structure LieMem (n i rule h fb zb : Nat) (rv : Nat → Value) (w0 : World) (lb ib xb rb hb : Nat) (A : Option Addr) (c cz : Nat) (W : List (List Nat)) : Prop where
  hl : w0.heap[lb]? = some (.cells #[.slice (some ⟨zb, 0, none⟩) n cz] 49 (0, 0))
  hi : w0.heap[ib]? = some (.cells #[.int .i64 i] 3 (0, 0))
  hx : w0.heap[xb]? = some (.cells #[.slice A n c] 49 (0, 0))
  hr : w0.heap[rb]? = some (.cells #[.int .i64 rule] 3 (0, 0))
  hh : w0.heap[hb]? = some (.cells #[.int .i64 h] 3 (0, 0))
  lt : ib < zb ∧ xb < zb ∧ rb < zb ∧ hb < zb ∧ zb < lb ∧ lb < fb
  rows : RowsA w0 zb A (upp W)
  rvs : ∀ j, j < n → ∃ A' c', rv j = .slice A' n c' ∧ n ≤ c' ∧ IntsA w0 zb A' (up (W.getD j []))

theorem set_row {W : List (List Nat)} {n i j : Nat} (hlen : W.length = n) (l : List Nat) (hj : j < n) : (W.set i l).getD j [] = if j = i then l else W.getD j [] := by
  simp only [List.getD_eq_getElem?_getD, List.getElem?_set]
  by_cases e : j = i
  · subst e; simp [hlen, hj]
  · have : ¬ i = j := fun h => e h.symm
    simp [e, this]
theorem set_ok {W : List (List Nat)} {n i : Nat} (h : WOk W n) {l : List Nat} (hl : Ord l n) : WOk (W.set i l) n :=
  ⟨by rw [List.length_set]; exact h.len, h.pos, h.le, fun j hj => by
    rw [set_row h.len l hj]
    split
    · exact hl
    · exact h.rows j hj⟩

/-- The lies, behind the laying, read as the wishes with another row i. -/
theorem lies_read {n i fb zb c c0 cy cz : Nat} {rule h : Nat} {rv : Nat → Value} {w0 w : World} {A A0 Y : Option Addr} {F : Nat → Prop} {s : Option (List Nat)} {lb ib xb rb hb : Nat} {W : List (List Nat)} {l : List Nat}
    (hM : LieMem n i rule h fb zb rv w0 lb ib xb rb hb A c cz W) (hm : LMem n i fb zb rv w0 A0 c0 F s w) (hlen : W.length = n) (hl : l.length = n) (hcy : n ≤ cy) (hi : i < n) (hY : IntsA w w.heap.size Y (up l)) (hoff : ∀ b o, Y = some ⟨b, o, none⟩ → b ≠ zb) (hrow : ∀ j, j < n → (W.getD j []).length = n) :
    RowsA (w.setCell ⟨zb, i, none⟩ (.slice Y n cy)) w.heap.size (some ⟨zb, 0, none⟩) (upp (W.set i l)) := by
  obtain ⟨cur, hz, h1, h2⟩ := hm.zrow
  have hlt := hM.lt
  have hzl := lt_of_block hz
  intro j hj
  rw [upp_length, List.length_set, hlen] at hj
  rw [upp_getD, set_row hlen l hj]
  have hset := blk_set hz i (.slice Y n cy)
  have hcell : (w.setCell ⟨zb, i, none⟩ (.slice Y n cy)).cell? ⟨zb, 0 + j, none⟩ = (cur.setIfInBounds i (.slice Y n cy))[j]? := by rw [Nat.zero_add]; exact blk_cell hset j
  by_cases e : j = i
  · subst e
    rw [if_pos rfl, up_length, hl]
    refine ⟨zb, 0, Y, cy, rfl, hzl, ?_, hcy, hY.keepA fun b o e => ?_⟩
    · rw [hcell, Array.getElem?_setIfInBounds_self_of_lt (by omega)]
    · obtain ⟨b', o', e', hb', _⟩ := hY 0 (by rw [up_length]; omega)
      rw [e] at e'
      injection e' with e'
      injection e' with e' _ _
      exact ⟨by rw [e']; exact hb', blk_far _ (hoff b o e)⟩
  · rw [if_neg e, up_length, hrow j hj]
    obtain ⟨A', c', e1, hc', hI⟩ := hM.rvs j hj
    refine ⟨zb, 0, A', c', rfl, hzl, ?_, hc', (hI.keep (w' := w.setCell ⟨zb, i, none⟩ (.slice Y n cy)) fun p hp => World.cell?_of_block ((blk_far _ (by omega)).trans (hm.old p.block (by omega) (by omega)))).more (by omega)⟩
    rw [hcell, Array.getElem?_setIfInBounds_ne (fun h => e h.symm), h2 j hj e, e1]
end Go.Proofs.Ytilnbiaabhdfgaa
