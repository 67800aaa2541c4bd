/-
  Memory of jobs (four cells each) and of pieces (three cells each).
-/
import Derived.Test.YtiadineakhcclaaDPlain
import Derived.Test.YtiadineakhcclaaAppS
namespace Go.Proofs.Ytiadineakhcclaa
open Go.RowKit Go.Deep
set_option linter.unusedVariables false
set_option linter.unusedSimpArgs false

def JobsA (w : World) (B : Nat) (A : Option Addr) (L : List J4) : Prop :=
  ∀ i, i < L.length → ∃ b o, A = some ⟨b, o, none⟩ ∧ b < B ∧ w.cell? ⟨b, o + i * 4, none⟩ = some (.int .i64 (L.getD i j0).t) ∧ w.cell? ⟨b, o + i * 4 + 1, none⟩ = some (.int .i64 (L.getD i j0).r) ∧
    w.cell? ⟨b, o + i * 4 + 2, none⟩ = some (.int .i64 (L.getD i j0).d) ∧ w.cell? ⟨b, o + i * 4 + 3, none⟩ = some (.int .i64 (L.getD i j0).w)
def PcsA (w : World) (B : Nat) (A : Option Addr) (l : List P3) : Prop :=
  ∀ i, i < l.length → ∃ b o, A = some ⟨b, o, none⟩ ∧ b < B ∧ w.cell? ⟨b, o + i * 3, none⟩ = some (.int .i64 (l.getD i p0).job) ∧ w.cell? ⟨b, o + i * 3 + 1, none⟩ = some (.int .i64 (l.getD i p0).fr) ∧
    w.cell? ⟨b, o + i * 3 + 2, none⟩ = some (.int .i64 (l.getD i p0).to)
section
variable {w w' : World} {B B' : Nat} {A : Option Addr} {L : List J4} {l : List P3}
theorem JobsA.at_ {k : Nat} (h : JobsA w B A L) (hk : k < L.length) : ∃ b o t r d u, A = some ⟨b, o, none⟩ ∧ b < B ∧ w.cell? ⟨b, o + k * 4, none⟩ = some (.int .i64 t) ∧ w.cell? ⟨b, o + k * 4 + 1, none⟩ = some (.int .i64 r) ∧
    w.cell? ⟨b, o + k * 4 + 2, none⟩ = some (.int .i64 d) ∧ w.cell? ⟨b, o + k * 4 + 3, none⟩ = some (.int .i64 u) ∧ Hid (L.getD k j0 = ⟨t, r, d, u⟩) :=
  let ⟨b, o, e, hb, h1, h2, h3, h4⟩ := h k hk
  ⟨b, o, _, _, _, _, e, hb, h1, h2, h3, h4, rfl⟩
theorem JobsA.keep (h : JobsA w B A L) (hk : ∀ p : Addr, p.block < B → w'.cell? p = w.cell? p) : JobsA w' B A L := fun i hi =>
  let ⟨b, o, e, hb, h1, h2, h3, h4⟩ := h i hi
  ⟨b, o, e, hb, (hk ⟨b, _, none⟩ hb).trans h1, (hk ⟨b, _, none⟩ hb).trans h2, (hk ⟨b, _, none⟩ hb).trans h3, (hk ⟨b, _, none⟩ hb).trans h4⟩
theorem JobsA.more (h : JobsA w B A L) (hB : B ≤ B') : JobsA w B' A L := fun i hi =>
  let ⟨b, o, e, hb, h1⟩ := h i hi
  ⟨b, o, e, by omega, h1⟩
theorem JobsA.below (h : JobsA w B A L) (hb : Below B w w') : JobsA w' B A L := h.keep fun _ hp => hb.cell hp
theorem JobsA.top (h : JobsA w B A L) : JobsA w w.heap.size A L := fun i hi =>
  let ⟨b, o, e, _, h1⟩ := h i hi
  ⟨b, o, e, cell_lt h1.1, h1⟩
theorem JobsA.next (h : JobsA w B A L) (hb : Below w.heap.size w w') : JobsA w' w'.heap.size A L := ((h.top).below hb).top
theorem JobsA.nil_ : JobsA w B A [] := fun i hi => absurd hi (by simp)
theorem PcsA.at_ {k : Nat} (h : PcsA w B A l) (hk : k < l.length) : ∃ b o j f t, A = some ⟨b, o, none⟩ ∧ b < B ∧ w.cell? ⟨b, o + k * 3, none⟩ = some (.int .i64 j) ∧ w.cell? ⟨b, o + k * 3 + 1, none⟩ = some (.int .i64 f) ∧
    w.cell? ⟨b, o + k * 3 + 2, none⟩ = some (.int .i64 t) ∧ Hid (l.getD k p0 = ⟨j, f, t⟩) :=
  let ⟨b, o, e, hb, h1, h2, h3⟩ := h k hk
  ⟨b, o, _, _, _, e, hb, h1, h2, h3, rfl⟩
theorem PcsA.keep (h : PcsA w B A l) (hk : ∀ p : Addr, p.block < B → w'.cell? p = w.cell? p) : PcsA w' B A l := fun i hi =>
  let ⟨b, o, e, hb, h1, h2, h3⟩ := h i hi
  ⟨b, o, e, hb, (hk ⟨b, _, none⟩ hb).trans h1, (hk ⟨b, _, none⟩ hb).trans h2, (hk ⟨b, _, none⟩ hb).trans h3⟩
theorem PcsA.more (h : PcsA w B A l) (hB : B ≤ B') : PcsA w B' A l := fun i hi =>
  let ⟨b, o, e, hb, h1⟩ := h i hi
  ⟨b, o, e, by omega, h1⟩
theorem PcsA.below (h : PcsA w B A l) (hb : Below B w w') : PcsA w' B A l := h.keep fun _ hp => hb.cell hp
theorem PcsA.top (h : PcsA w B A l) : PcsA w w.heap.size A l := fun i hi =>
  let ⟨b, o, e, _, h1⟩ := h i hi
  ⟨b, o, e, cell_lt h1.1, h1⟩
theorem PcsA.next (h : PcsA w B A l) (hb : Below w.heap.size w w') : PcsA w' w'.heap.size A l := ((h.top).below hb).top
theorem PcsA.nil_ : PcsA w B A [] := fun i hi => absurd hi (by simp)
end

/-! The cells of a list of jobs, of pieces. -/
def jcells (L : List J4) : List Value := L.flatMap fun j => [.int .i64 j.t, .int .i64 j.r, .int .i64 j.d, .int .i64 j.w]
def pcells (l : List P3) : List Value := l.flatMap fun p => [.int .i64 p.job, .int .i64 p.fr, .int .i64 p.to]
theorem jcells_snoc (L : List J4) (j : J4) : jcells (L ++ [j]) = jcells L ++ [.int .i64 j.t, .int .i64 j.r, .int .i64 j.d, .int .i64 j.w] := by simp [jcells]
theorem pcells_snoc (l : List P3) (p : P3) : pcells (l ++ [p]) = pcells l ++ [.int .i64 p.job, .int .i64 p.fr, .int .i64 p.to] := by simp [pcells]
theorem jcells_len : ∀ L : List J4, (jcells L).length = L.length * 4
  | [] => rfl
  | j :: L => by
    have := jcells_len L
    show ([_, _, _, _] ++ jcells L).length = _
    rw [List.length_append, this]; simp only [List.length_cons, List.length_nil]; omega
theorem pcells_len : ∀ l : List P3, (pcells l).length = l.length * 3
  | [] => rfl
  | p :: l => by
    have := pcells_len l
    show ([_, _, _] ++ pcells l).length = _
    rw [List.length_append, this]; simp only [List.length_cons, List.length_nil]; omega
theorem jcells_at : ∀ (L : List J4) (i : Nat), i < L.length → (jcells L)[i * 4]? = some (.int .i64 (L.getD i j0).t) ∧ (jcells L)[i * 4 + 1]? = some (.int .i64 (L.getD i j0).r) ∧ (jcells L)[i * 4 + 2]? = some (.int .i64 (L.getD i j0).d) ∧ (jcells L)[i * 4 + 3]? = some (.int .i64 (L.getD i j0).w)
  | [], i, h => absurd h (by simp)
  | j :: L, 0, _ => ⟨rfl, rfl, rfl, rfl⟩
  | j :: L, i + 1, h => by
    have := jcells_at L i (by simpa using h)
    have e : jcells (j :: L) = [.int .i64 j.t, .int .i64 j.r, .int .i64 j.d, .int .i64 j.w] ++ jcells L := rfl
    have g : (j :: L).getD (i + 1) j0 = L.getD i j0 := by simp
    rw [g, e]
    refine ⟨?_, ?_, ?_, ?_⟩
    · rw [List.getElem?_append_right (by simp; omega)]; rw [show (i + 1) * 4 - [Value.int .i64 j.t, .int .i64 j.r, .int .i64 j.d, .int .i64 j.w].length = i * 4 by simp; omega]; exact this.1
    · rw [List.getElem?_append_right (by simp; omega)]; rw [show (i + 1) * 4 + 1 - [Value.int .i64 j.t, .int .i64 j.r, .int .i64 j.d, .int .i64 j.w].length = i * 4 + 1 by simp; omega]; exact this.2.1
    · rw [List.getElem?_append_right (by simp; omega)]; rw [show (i + 1) * 4 + 2 - [Value.int .i64 j.t, .int .i64 j.r, .int .i64 j.d, .int .i64 j.w].length = i * 4 + 2 by simp; omega]; exact this.2.2.1
    · rw [List.getElem?_append_right (by simp; omega)]; rw [show (i + 1) * 4 + 3 - [Value.int .i64 j.t, .int .i64 j.r, .int .i64 j.d, .int .i64 j.w].length = i * 4 + 3 by simp; omega]; exact this.2.2.2
theorem pcells_at : ∀ (l : List P3) (i : Nat), i < l.length → (pcells l)[i * 3]? = some (.int .i64 (l.getD i p0).job) ∧ (pcells l)[i * 3 + 1]? = some (.int .i64 (l.getD i p0).fr) ∧ (pcells l)[i * 3 + 2]? = some (.int .i64 (l.getD i p0).to)
  | [], i, h => absurd h (by simp)
  | j :: L, 0, _ => ⟨rfl, rfl, rfl⟩
  | j :: L, i + 1, h => by
    have := pcells_at L i (by simpa using h)
    have e : pcells (j :: L) = [.int .i64 j.job, .int .i64 j.fr, .int .i64 j.to] ++ pcells L := rfl
    have g : (j :: L).getD (i + 1) p0 = L.getD i p0 := by simp
    rw [g, e]
    refine ⟨?_, ?_, ?_⟩
    · rw [List.getElem?_append_right (by simp; omega)]; rw [show (i + 1) * 3 - [Value.int .i64 j.job, .int .i64 j.fr, .int .i64 j.to].length = i * 3 by simp; omega]; exact this.1
    · rw [List.getElem?_append_right (by simp; omega)]; rw [show (i + 1) * 3 + 1 - [Value.int .i64 j.job, .int .i64 j.fr, .int .i64 j.to].length = i * 3 + 1 by simp; omega]; exact this.2.1
    · rw [List.getElem?_append_right (by simp; omega)]; rw [show (i + 1) * 3 + 2 - [Value.int .i64 j.job, .int .i64 j.fr, .int .i64 j.to].length = i * 3 + 2 by simp; omega]; exact this.2.2
theorem pcells_set2 : ∀ (l : List P3) (i : Nat) (x : Int), i < l.length → (pcells l).set (i * 3 + 2) (.int .i64 x) = pcells (l.set i ⟨(l.getD i p0).job, (l.getD i p0).fr, x⟩)
  | [], i, x, h => absurd h (by simp)
  | j :: L, 0, x, _ => rfl
  | j :: L, i + 1, x, h => by
    have := pcells_set2 L i x (by simpa using h)
    have e : pcells (j :: L) = .int .i64 j.job :: .int .i64 j.fr :: .int .i64 j.to :: pcells L := rfl
    have g : (j :: L).getD (i + 1) p0 = L.getD i p0 := by simp
    rw [g, e, show (i + 1) * 3 + 2 = (i * 3 + 2) + 1 + 1 + 1 by omega, List.set_cons_succ, List.set_cons_succ, List.set_cons_succ, this]
    rfl

/-- The cell of an own row. -/
theorem own_cell {w : World} {base n size : Nat} {e : TypeId} {c g : Nat} {xs : List Value} {v : Value} (h : w.ownsRow base e size (.slice (some ⟨g, 0, none⟩) n c) n xs) {i : Nat} (hi : xs[i]? = some v) : w.cell? ⟨g, i, none⟩ = some v := by
  have hc := h.cells (g := g) rfl i v hi
  rw [add_plain, Nat.zero_add] at hc
  exact hc
theorem own_free {w : World} {base n size : Nat} {e : TypeId} {c g : Nat} {xs : List Value} (h : w.ownsRow base e size (.slice (some ⟨g, 0, none⟩) n c) n xs) (i : Nat) : w.frozen? ⟨g, i, none⟩ = false := by
  rcases h.2 with ⟨hv, h0⟩ | ⟨g', cap, cur, hv, hg, hh, r⟩
  · cases hv
  · injection hv with e1; injection e1 with e1; injection e1 with e1
    subst e1
    simp [World.frozen?, hh]
theorem own_blk {g o x n c : Nat} (h : (Value.slice (some ⟨g, o, none⟩) n c).ownBlock = some x) : x = g := by
  have : g = x := by simpa [Value.ownBlock] using h
  exact this.symm
theorem own_nil_len {w : World} {base n size : Nat} {e : TypeId} {c : Nat} {xs : List Value} (h : w.ownsRow base e size (.slice none n c) n xs) : n = 0 := by
  rcases h.2 with ⟨hv, h0⟩ | ⟨g', cap, cur, hv, hg, hh, r⟩
  · exact h0
  · cases hv
/-- A store into a cell of an own row. -/
theorem own_set {w : World} {base n size : Nat} {e : TypeId} {c g : Nat} {xs : List Value} (h : w.ownsRow base e size (.slice (some ⟨g, 0, none⟩) n c) n xs) {i : Nat} (hi : i < n * size) (u : Value) :
    (w.setCell ⟨g, i, none⟩ u).ownsRow base e size (.slice (some ⟨g, 0, none⟩) n c) n (xs.set i u) := by
  refine ⟨by rw [List.length_set]; exact h.1, ?_⟩
  rcases h.2 with ⟨hv, h0⟩ | ⟨g', cap, cur, hv, hg, hh, h1, h2, h3, h4⟩
  · cases hv
  · injection hv with e1 _ e2; injection e1 with e1; injection e1 with e1
    subst e1
    subst e2
    refine .inr ⟨g, c, cur.setIfInBounds i u, rfl, hg, by simp [World.setCell, Array.getElem?_modify, hh], h1, h2, by simpa using h3, ?_⟩
    rw [Array.toList_setIfInBounds, List.take_set, h4]
theorem own_farS {w : World} {base n size b' i : Nat} {e : TypeId} {v : Value} {xs : List Value} (h : w.ownsRow base e size v n xs) (hne : ∀ g, v.ownBlock = some g → g ≠ b') (u : Value) : (w.setCell ⟨b', i, none⟩ u).ownsRow base e size v n xs :=
  own_keepS h fun g hg => blk_far u (hne g hg)
theorem jobs_of_own {w : World} {base n : Nat} {e : TypeId} {A : Option Addr} {c : Nat} {L : List J4} (h : w.ownsRow base e 4 (.slice A n c) n (jcells L)) : JobsA w w.heap.size A L := fun i hi => by
  have hn : n = L.length := by have := h.1; rw [jcells_len] at this; omega
  obtain ⟨g, cap, hv, hg, h1, h2, h3⟩ := own_formS h (by omega)
  injection hv with e1 _ e2
  subst e1; subst e2
  have hc := jcells_at L i hi
  refine ⟨g, 0, rfl, h3, ?_⟩
  rw [Nat.zero_add]
  exact ⟨own_cell h hc.1, own_cell h hc.2.1, own_cell h hc.2.2.1, own_cell h hc.2.2.2⟩
theorem pcs_of_own {w : World} {base n : Nat} {e : TypeId} {A : Option Addr} {c : Nat} {l : List P3} (h : w.ownsRow base e 3 (.slice A n c) n (pcells l)) : PcsA w w.heap.size A l := fun i hi => by
  have hn : n = l.length := by have := h.1; rw [pcells_len] at this; omega
  obtain ⟨g, cap, hv, hg, h1, h2, h3⟩ := own_formS h (by omega)
  injection hv with e1 _ e2
  subst e1; subst e2
  have hc := pcells_at l i hi
  refine ⟨g, 0, rfl, h3, ?_⟩
  rw [Nat.zero_add]
  exact ⟨own_cell h hc.1, own_cell h hc.2.1, own_cell h hc.2.2⟩
end Go.Proofs.Ytiadineakhcclaa
