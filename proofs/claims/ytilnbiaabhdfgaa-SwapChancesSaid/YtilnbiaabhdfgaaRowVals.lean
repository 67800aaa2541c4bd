/-
  A slice of slices that the call itself makes, row by row.
-/
import Derived.Test.YtilnbiaabhdfgaaAppend
namespace Go.Proofs.Ytilnbiaabhdfgaa
open Go.RowKit
set_option linter.unusedVariables false
set_option linter.unusedSimpArgs false

/-- No block of A is g. -/
def Off (A : Option Addr) (g : Option Nat) : Prop := ∀ b o, A = some ⟨b, o, none⟩ → some b ≠ g
/-- The values vs are slices that read as the rows L, none of them in block g. -/
def RowVals (w : World) (g : Option Nat) (vs : List Value) (L : List (List Int)) : Prop :=
  vs.length = L.length ∧ ∀ i, i < L.length → ∃ A' c', vs[i]? = some (.slice A' (L.getD i []).length c') ∧ (L.getD i []).length ≤ c' ∧ IntsA w w.heap.size A' (L.getD i []) ∧ (0 < (L.getD i []).length → Off A' g)

theorem off_own {A : Option Addr} {g : Option Nat} {n c : Nat} (h : ∀ k, (Value.slice A n c).ownBlock = some k → some k ≠ g) : Off A g := fun b o e => h b (by subst e; rfl)

section
variable {w w' w1 : World} {g : Option Nat} {vs : List Value} {L : List (List Int)}
theorem RowVals.nil_ : RowVals w g [] [] := ⟨rfl, fun i hi => absurd hi (by simp)⟩
theorem RowVals.next (h : RowVals w g vs L) (hb : Below w.heap.size w w') : RowVals w' g vs L :=
  ⟨h.1, fun i hi => by
    obtain ⟨A', c', h1, h2, h3, h4⟩ := h.2 i hi
    exact ⟨A', c', h1, h2, h3.next hb, h4⟩⟩
theorem IntsA.grownOff {A : Option Addr} {l : List Int} (h : IntsA w w.heap.size A l) (hg : w.grownBy w1 g) (hn : 0 < l.length → Off A g) : IntsA w1 w1.heap.size A l := by
  intro i hil
  obtain ⟨b, o, e, hb, hc⟩ := h i hil
  refine ⟨b, o, e, by have := hg.size; omega, ?_⟩
  rw [World.cell?_of_block (w := w) (a := ⟨b, o + i, none⟩) (hg.block b hb (hn (by omega) b o e))]; exact hc
theorem IntsA.off_new {A : Option Addr} {l : List Int} (h : IntsA w w.heap.size A l) {g' : Nat} (hg' : g = some g' ∨ w.heap.size ≤ g') (hn : 0 < l.length → Off A g) (hp : 0 < l.length) : Off A (some g') := fun b o e => by
  obtain ⟨b2, o2, e2, hb2, _⟩ := h 0 hp
  rw [e] at e2
  injection e2 with e2
  injection e2 with e3 e4 _
  subst e3
  rcases hg' with h1 | h1
  · rw [← h1]; exact hn hp b o e
  · intro e5; injection e5 with e5; omega
theorem IntsA.keepA {B B' : Nat} {A : Option Addr} {l : List Int} (h : IntsA w B A l) (hk : ∀ b o, A = some ⟨b, o, none⟩ → b < B' ∧ w'.heap[b]? = w.heap[b]?) : IntsA w' B' A l := fun i hi => by
  obtain ⟨b, o, e, hb, hc⟩ := h i hi
  obtain ⟨h1, h2⟩ := hk b o e
  exact ⟨b, o, e, h1, (World.cell?_of_block (w := w) (a := ⟨b, o + i, none⟩) h2).trans hc⟩
/-- One row more, behind an append onto the row of rows (block g, now g'). -/
theorem RowVals.snoc (h : RowVals w g vs L) (hg : w.grownBy w1 g) {g' : Nat} (hg' : g = some g' ∨ w.heap.size ≤ g') {A : Option Addr} {c n : Nat} {l : List Int} (hn : l.length = n) (hc : n ≤ c) (hA : IntsA w w.heap.size A l)
    (hne : 0 < l.length → Off A g) : RowVals w1 (some g') (vs ++ [.slice A n c]) (L ++ [l]) := by
  subst hn
  refine ⟨by simp [h.1], fun i hi => ?_⟩
  simp only [List.length_append, List.length_cons, List.length_nil] at hi
  by_cases hlt : i < L.length
  · obtain ⟨A', c', h1, h2, h3, h4⟩ := h.2 i hlt
    have e1 : (L ++ [l]).getD i [] = L.getD i [] := by simp [List.getD_eq_getElem?_getD, List.getElem?_append_left hlt]
    rw [e1]
    exact ⟨A', c', by rw [List.getElem?_append_left (by rw [h.1]; exact hlt)]; exact h1, h2, h3.grownOff hg h4, fun h0 => h3.off_new hg' h4 h0⟩
  · have e0 : i = L.length := by omega
    subst e0
    have e1 : (L ++ [l]).getD L.length [] = l := by simp [List.getD_eq_getElem?_getD]
    rw [e1]
    exact ⟨A, c, by rw [← h.1]; simp, hc, hA.grownOff hg hne, fun h0 => hA.off_new hg' hne h0⟩
/-- An owned row of such values reads as the rows. -/
theorem rows_of {base n c : Nat} {e : TypeId} {X : Option Addr} (h : RowVals w g vs L) (hown : w.ownsRow base e 1 (.slice X n c) n vs) : RowsA w w.heap.size X L := by
  intro i hi
  have hn : n = L.length := by have := hown.1; rw [h.1] at this; simpa using this.symm
  obtain ⟨k, cap, hv, _, _, _, hlt⟩ := own_form hown (by omega)
  injection hv with hX _ _
  subst hX
  obtain ⟨A', c', h1, h2, h3, _⟩ := h.2 i hi
  have hc := hown.cells (g := k) rfl i _ h1
  refine ⟨k, 0, A', c', rfl, hlt, ?_, h2, h3⟩
  have e1 : ((⟨k, 0, none⟩ : Addr).add i) = ⟨k, 0 + i, none⟩ := by
    unfold Addr.add
    split
    · rename_i h0; subst h0; rfl
    · rfl
  rw [← e1]; exact hc
end
end Go.Proofs.Ytilnbiaabhdfgaa
