/-
  vote.Bend: the first part without an axis, where there is no axis of all.
-/
import Derived.Test.YtejijddfepgnkaaChoices
import Derived.Test.YtejijddfepgnkaaLieV
import Derived.Test.YtejijddfepgnkaaAxis
import Derived.Test.YtejijddfepgnkaaUpTo
import Derived.Test.YtejijddfepgnkaaValidVote
import Derived.Laws.Cover3
import Derived.Deep.CutRange
namespace Go.Proofs.Ytejijddfepgnkaa
open Go.RowKit
set_option linter.unusedVariables false
set_option linter.unusedSimpArgs false
attribute [local go_sem] Oper.semAt_some

/-- The first ballots (vv of them) without an axis of the candidates nm. -/
def bdV (W : List (List Nat)) (v vv : Nat) (nm : List Nat) : Option (List Nat) := (chsG v vv 0 []).find? fun vs => (axF W nm vs).isNone
/-- The first candidates (k of them) and ballots (vv of them) without an axis. -/
def bdN (W : List (List Nat)) (v n k vv : Nat) : Option (List Nat × List Nat) := (chsG n k 0 []).findSome? fun nm => (bdV W v vv nm).map fun vs => (vs, nm)
abbrev BdS := Option (List Nat × List Nat)
def bdSt (W : List (List Nat)) (nm : List Nat) (s : BdS) (vs : List Nat) : BdS × Option Code := if (axF W nm vs).isNone then (some (vs, nm), some .ret) else (s, none)
def bdSt1 (W : List (List Nat)) (v vv : Nat) (s : BdS) (nm : List Nat) : BdS × Option Code := match bdV W v vv nm with | some vs => (some (vs, nm), some .ret) | none => (s, none)
theorem bd_run (W : List (List Nat)) (nm : List Nat) (s : BdS) : ∀ xs : List (List Nat), runJ (bdSt W nm) xs s = match xs.find? (fun vs => (axF W nm vs).isNone) with | some vs => (some (vs, nm), some .ret) | none => (s, none)
  | [] => rfl
  | x :: xs => by
    have ih := bd_run W nm s xs
    rw [List.find?_cons]
    cases h : (axF W nm x).isNone with
    | true => simp [runJ, bdSt, h]
    | false => simp only [runJ, bdSt, h, Bool.false_eq_true, if_false, Option.isNone_none, if_true]; exact ih
theorem bd_run1 (W : List (List Nat)) (v vv : Nat) (s : BdS) : ∀ xs : List (List Nat), runJ (bdSt1 W v vv) xs s = match xs.findSome? (fun nm => (bdV W v vv nm).map fun vs => (vs, nm)) with | some p => (some p, some .ret) | none => (s, none)
  | [] => rfl
  | x :: xs => by
    have ih := bd_run1 W v vv s xs
    rw [List.findSome?_cons]
    cases h : bdV W v vv x with
    | some vs => simp [runJ, bdSt1, h]
    | none => simp only [runJ, bdSt1, h, Option.isNone_none, if_true, Option.map_none]; exact ih

/-- What holds between two rounds of a loop that began in w3; Fb: whom it wrote to before; Pn: the row of the names. -/
structure BdI (B lo k vv : Nat) (Fb Pn : Nat → Prop) (w3 : World) (F : Nat → Prop) (s : BdS) (W' : World) : Prop where
  keep : ∀ q, q < w3.heap.size → ¬ Fb q → W'.heap[q]? = w3.heap[q]?
  sub : ∀ q, Fb q → F q
  f1 : F B
  f2 : F (B + 1)
  f3 : F (B + 1 + 1)
  fo : ∀ q, F q → Fb q ∨ w3.heap.size ≤ q
  no : s = none → W'.heap[B]? = some (.cells #[.slice none 0 0] 23 (0, 0)) ∧ W'.heap[B + 1]? = some (.cells #[.slice none 0 0] 23 (0, 0)) ∧ W'.heap[B + 1 + 1]? = some (.cells #[.int .i64 0] 24 (0, 0))
  yes : ∀ vs nm, s = some (vs, nm) → ∃ X cx Y cy, W'.heap[B]? = some (.cells #[.slice X vv cx] 23 (0, 0)) ∧ W'.heap[B + 1]? = some (.cells #[.slice Y k cy] 23 (0, 0)) ∧ W'.heap[B + 1 + 1]? = some (.cells #[.int .i64 0] 24 (0, 0)) ∧
    vs.length = vv ∧ nm.length = k ∧ vv ≤ cx ∧ k ≤ cy ∧ IntsA W' W'.heap.size X (up vs) ∧ IntsA W' W'.heap.size Y (up nm) ∧ ∀ q, (Value.slice X vv cx).ownBlock = some q ∨ (Value.slice Y k cy).ownBlock = some q → lo ≤ q ∧ (F q ∨ Pn q)
theorem BdI.stab {B lo k vv : Nat} {Fb Pn : Nat → Prop} {w3 : World} (hP : ∀ q, Pn q → q < w3.heap.size) (F : Nat → Prop) (s : BdS) (X Y : World) (h : BdI B lo k vv Fb Pn w3 F s X) (hk : ∀ q, F q ∨ q < w3.heap.size → Y.heap[q]? = X.heap[q]?) (hs : X.heap.size ≤ Y.heap.size) (_ : Y.tape = X.tape) : BdI B lo k vv Fb Pn w3 F s Y := by
  refine ⟨fun q h1 h2 => (hk q (.inr h1)).trans (h.keep q h1 h2), h.sub, h.f1, h.f2, h.f3, h.fo, fun e => ?_, fun vs nm e => ?_⟩
  · obtain ⟨h1, h2, h3⟩ := h.no e
    exact ⟨(hk _ (.inl h.f1)).trans h1, (hk _ (.inl h.f2)).trans h2, (hk _ (.inl h.f3)).trans h3⟩
  · obtain ⟨Z, cx, U, cy, h1, h2, h3, h4, h5, h6, h7, h8, h9, h10⟩ := h.yes vs nm e
    have hq : ∀ q, (Value.slice Z vv cx).ownBlock = some q ∨ (Value.slice U k cy).ownBlock = some q → Y.heap[q]? = X.heap[q]? := fun q hq => hk q (by
      rcases (h10 q hq).2 with h | h
      · exact .inl h
      · exact .inr (hP q h))
    exact ⟨Z, cx, U, cy, (hk _ (.inl h.f1)).trans h1, (hk _ (.inl h.f2)).trans h2, (hk _ (.inl h.f3)).trans h3, h4, h5, h6, h7, h8.keepR hs fun b o e hb => hq b (.inl (by subst e; rfl)), h9.keepR hs fun b o e hb => hq b (.inr (by subst e; rfl)), h10⟩
theorem BdI.cells {B lo k vv : Nat} {Fb Pn : Nat → Prop} {w3 W2 : World} {F : Nat → Prop} {s : BdS} (h : BdI B lo k vv Fb Pn w3 F s W2) :
    ∃ u1 u2 u3, W2.heap[B]? = some (.cells #[u1] 23 (0, 0)) ∧ W2.heap[B + 1]? = some (.cells #[u2] 23 (0, 0)) ∧ W2.heap[B + 1 + 1]? = some (.cells #[u3] 24 (0, 0)) := by
  cases s with
  | none => obtain ⟨h1, h2, h3⟩ := h.no rfl; exact ⟨_, _, _, h1, h2, h3⟩
  | some x => obtain ⟨X, cx, Y, cy, h1, h2, h3, _⟩ := h.yes x.1 x.2 rfl; exact ⟨_, _, _, h1, h2, h3⟩
/-- The inner loop begins as the outer round stands. -/
theorem BdI.inner {B lo k vv : Nat} {Fb Pn Pn' : Nat → Prop} {w3 W2 : World} {F : Nat → Prop} {s : BdS} (h : BdI B lo k vv Fb Pn w3 F s W2) (hP : ∀ q, ¬ Pn q) : BdI B lo k vv F Pn' W2 F s W2 :=
  ⟨fun _ _ _ => rfl, fun q h => h, h.f1, h.f2, h.f3, fun q h => .inl h, h.no, fun vs nm e => by
    obtain ⟨X, cx, Y, cy, h1, h2, h3, h4, h5, h6, h7, h8, h9, h10⟩ := h.yes vs nm e
    exact ⟨X, cx, Y, cy, h1, h2, h3, h4, h5, h6, h7, h8, h9, fun q hq => ⟨(h10 q hq).1, (h10 q hq).2.elim .inl fun h => absurd h (hP q)⟩⟩⟩
/-- The outer round ends as the inner loop stands. -/
theorem BdI.outer {B lo k vv : Nat} {Fb Pn : Nat → Prop} {w3 W2 W3 : World} {F F' : Nat → Prop} {s s' : BdS} (h : BdI B lo k vv Fb (fun _ => False) w3 F s W2) (h' : BdI B lo k vv F Pn W2 F' s' W3) (hs : w3.heap.size ≤ W2.heap.size) : BdI B lo k vv Fb (fun _ => False) w3 (fun q => F' q ∨ (Pn q ∧ lo ≤ q ∧ w3.heap.size ≤ q)) s' W3 ∨ ∃ q, Pn q ∧ ¬ (lo ≤ q ∧ w3.heap.size ≤ q) := by
  by_cases hx : ∃ q, Pn q ∧ ¬ (lo ≤ q ∧ w3.heap.size ≤ q)
  · exact .inr hx
  · refine .inl ⟨fun q h1 h2 => (h'.keep q (by omega) (fun hf => ?_)).trans (h.keep q h1 h2), fun q hq => .inl (h'.sub q (h.sub q hq)), .inl h'.f1, .inl h'.f2, .inl h'.f3, fun q hq => ?_, h'.no, fun vs nm e => ?_⟩
    · rcases h.fo q hf with h3 | h3
      · exact h2 h3
      · omega
    · rcases hq with hq | hq
      · rcases h'.fo q hq with h3 | h3
        · exact h.fo q h3
        · exact .inr (by omega)
      · exact .inr hq.2.2
    · obtain ⟨X, cx, Y, cy, h1, h2, h3, h4, h5, h6, h7, h8, h9, h10⟩ := h'.yes vs nm e
      refine ⟨X, cx, Y, cy, h1, h2, h3, h4, h5, h6, h7, h8, h9, fun q hq => ⟨(h10 q hq).1, .inl ?_⟩⟩
      rcases (h10 q hq).2 with h | h
      · exact .inl h
      · exact .inr ⟨h, Classical.byContradiction fun h9 => hx ⟨q, h, h9⟩⟩

/-- Three stores into three blocks, in whatever order: what has been stored. -/
structure St3 (W : World) (B : Nat) (u1 u2 u3 : Value) (d1 d2 d3 : Bool) (V : World) : Prop where
  far : ∀ q, q ≠ B → q ≠ B + 1 → q ≠ B + 1 + 1 → V.heap[q]? = W.heap[q]?
  size : V.heap.size = W.heap.size
  os : V.os = W.os
  tape : V.tape = W.tape
  output : V.output = W.output
  c1 : ∃ u, V.heap[B]? = some (.cells #[if d1 then u1 else u] 23 (0, 0))
  c2 : ∃ u, V.heap[B + 1]? = some (.cells #[if d2 then u2 else u] 23 (0, 0))
  c3 : ∃ u, V.heap[B + 1 + 1]? = some (.cells #[if d3 then u3 else u] 24 (0, 0))
theorem St3.begin {W : World} {B : Nat} {u1 u2 u3 a1 a2 a3 : Value} (h1 : W.heap[B]? = some (.cells #[a1] 23 (0, 0))) (h2 : W.heap[B + 1]? = some (.cells #[a2] 23 (0, 0))) (h3 : W.heap[B + 1 + 1]? = some (.cells #[a3] 24 (0, 0))) : St3 W B u1 u2 u3 false false false W.drew :=
  ⟨fun _ _ _ _ => rfl, rfl, rfl, rfl, rfl, ⟨a1, h1⟩, ⟨a2, h2⟩, ⟨a3, h3⟩⟩
theorem St3.s1 {W V : World} {B : Nat} {u1 u2 u3 : Value} {d1 d2 d3 : Bool} (h : St3 W B u1 u2 u3 d1 d2 d3 V) : St3 W B u1 u2 u3 true d2 d3 (V.setCell ⟨B, 0, none⟩ u1) := by
  obtain ⟨a, ha⟩ := h.c1
  obtain ⟨b, hb⟩ := h.c2
  obtain ⟨c, hc⟩ := h.c3
  exact ⟨fun q h1 h2 h3 => (blk_far _ h1).trans (h.far q h1 h2 h3), by simp [World.setCell, h.size], h.os, h.tape, h.output, ⟨a, blk_set ha 0 _⟩, ⟨b, (blk_far _ (by omega)).trans hb⟩, ⟨c, (blk_far _ (by omega)).trans hc⟩⟩
theorem St3.s2 {W V : World} {B : Nat} {u1 u2 u3 : Value} {d1 d2 d3 : Bool} (h : St3 W B u1 u2 u3 d1 d2 d3 V) : St3 W B u1 u2 u3 d1 true d3 (V.setCell ⟨B + 1, 0, none⟩ u2) := by
  obtain ⟨a, ha⟩ := h.c1
  obtain ⟨b, hb⟩ := h.c2
  obtain ⟨c, hc⟩ := h.c3
  exact ⟨fun q h1 h2 h3 => (blk_far _ h2).trans (h.far q h1 h2 h3), by simp [World.setCell, h.size], h.os, h.tape, h.output, ⟨a, (blk_far _ (by omega)).trans ha⟩, ⟨b, blk_set hb 0 _⟩, ⟨c, (blk_far _ (by omega)).trans hc⟩⟩
theorem St3.s3 {W V : World} {B : Nat} {u1 u2 u3 : Value} {d1 d2 d3 : Bool} (h : St3 W B u1 u2 u3 d1 d2 d3 V) : St3 W B u1 u2 u3 d1 d2 true (V.setCell ⟨B + 1 + 1, 0, none⟩ u3) := by
  obtain ⟨a, ha⟩ := h.c1
  obtain ⟨b, hb⟩ := h.c2
  obtain ⟨c, hc⟩ := h.c3
  exact ⟨fun q h1 h2 h3 => (blk_far _ h3).trans (h.far q h1 h2 h3), by simp [World.setCell, h.size], h.os, h.tape, h.output, ⟨a, (blk_far _ (by omega)).trans ha⟩, ⟨b, (blk_far _ (by omega)).trans hb⟩, ⟨c, blk_set hc 0 _⟩⟩
/-- What a store into one of the three wants. -/
theorem St3.at_ {W V : World} {B : Nat} {u1 u2 u3 : Value} {d1 d2 d3 : Bool} (h : St3 W B u1 u2 u3 d1 d2 d3 V) : (∃ u, V.cell? ⟨B, 0, none⟩ = some u) ∧ V.frozen? ⟨B, 0, none⟩ = false ∧ (∃ u, V.cell? ⟨B + 1, 0, none⟩ = some u) ∧ V.frozen? ⟨B + 1, 0, none⟩ = false ∧ (∃ u, V.cell? ⟨B + 1 + 1, 0, none⟩ = some u) ∧ V.frozen? ⟨B + 1 + 1, 0, none⟩ = false := by
  obtain ⟨a, ha⟩ := h.c1
  obtain ⟨b, hb⟩ := h.c2
  obtain ⟨c, hc⟩ := h.c3
  exact ⟨⟨_, blk_cell ha 0⟩, blk_free ha 0, ⟨_, blk_cell hb 0⟩, blk_free hb 0, ⟨_, blk_cell hc 0⟩, blk_free hc 0⟩

theorem lt_of_rec {w : World} {l : Nat} {o : Obj} (h : w.heap[l]? = some o) : l < w.heap.size := (Array.getElem?_eq_some_iff.1 h).1
/-- The last number of candidates at which the search can be. -/
def BdNo (W : List (List Nat)) (v n k vv : Nat) : Prop := ∀ k' v', 3 ≤ k' → 1 ≤ v' → v' ≤ v → (k' < k ∨ k' = k ∧ v' < vv) → bdN W v n k' v' = none
def BendPost (W : List (List Nat)) (v n : Nat) (w : World) (e : Ending) (w' : World) : Prop :=
  ∃ k vv vs nm X cx Y cy, e = .returned (.tuple #[.slice X vv cx, .slice Y k cy, .int .i64 0]) ∧ 3 ≤ k ∧ k ≤ n ∧ 1 ≤ vv ∧ vv ≤ v ∧ BdNo W v n k vv ∧ bdN W v n k vv = some (vs, nm) ∧ vs.length = vv ∧ nm.length = k ∧ vv ≤ cx ∧ k ≤ cy ∧
    IntsA w' w'.heap.size X (up vs) ∧ IntsA w' w'.heap.size Y (up nm) ∧ Below w.heap.size w w'
/-- At the heads of the loops over numbers. -/
structure BdL (w : World) (A : Option Addr) (v c : Nat) (Ds : List Nat) (wr : World) : Prop where
  c1 : wr.heap[w.heap.size]? = some (.cells #[.slice none 0 0] 23 (0, 0))
  c2 : wr.heap[w.heap.size + 1]? = some (.cells #[.slice none 0 0] 23 (0, 0))
  c3 : wr.heap[w.heap.size + 1 + 1]? = some (.cells #[.int .i64 0] 24 (0, 0))
  bb : wr.heap[w.heap.size + 1 + 1 + 1]? = some (.cells #[.slice A v c] 67 (0, 0))
  bel : Below w.heap.size w wr
  ds : DsOk (w.heap.size + 4) Ds wr
theorem BdL.next {w wr w' : World} {A : Option Addr} {v c : Nat} {Ds : List Nat} (h : BdL w A v c Ds wr) (hb : Below wr.heap.size wr w') : BdL w A v c Ds w' := by
  have e3 := lt_of_block h.bb
  exact ⟨(hb.block _ (by omega)).trans h.c1, (hb.block _ (by omega)).trans h.c2, (hb.block _ (by omega)).trans h.c3, (hb.block _ (by omega)).trans h.bb, h.bel.trans (hb.mono h.bel.size), h.ds.nd, fun D hD => ⟨(h.ds.at_ D hD).1, (hb.block D (Array.getElem?_eq_some_iff.1 (h.ds.at_ D hD).2).1).trans (h.ds.at_ D hD).2⟩⟩

def BdR1 (W : List (List Nat)) (v n c : Nat) (A : Option Addr) (w : World) (a' : Act) (w' : World) : Prop :=
  ∃ (u6 u7 u8 u9 u10 u11 u12 u13 u14 u15 u16 u17 u18 u19 u20 u21 u22 u23 u24 u25 u26 u27 u28 u29 u30 u31 u32 u33 u34 u35 u36 u37 u38 u39 u40 u41 u42 u43 u44 u45 u46 u47 u48 : Value) (ds : List Deferred), (∃ (k : Nat) (Ds : List Nat), 3 ≤ k ∧ k ≤ n ∧ u6 = .int .i64 (k : Nat) ∧ ds = marks Ds ∧ BdL w A v c Ds w' ∧ BdNo W v n k 1) ∧ a' = ⟨#[.slice A v c, undef, .pointer (some ⟨w.heap.size, 0, none⟩), .pointer (some ⟨w.heap.size + 1, 0, none⟩), .pointer (some ⟨w.heap.size + 1 + 1, 0, none⟩), .pointer (some ⟨w.heap.size + 1 + 1 + 1, 0, none⟩), u6, u7, u8, u9, u10, u11, u12, u13, u14, u15, u16, u17, u18, u19, u20, u21, u22, u23, u24, u25, u26, u27, u28, u29, u30, u31, u32, u33, u34, u35, u36, u37, u38, u39, u40, u41, u42, u43, u44, u45, u46, u47, u48], ds⟩
def BdR2 (W : List (List Nat)) (v n c k : Nat) (A : Option Addr) (w : World) (a' : Act) (w' : World) : Prop :=
  ∃ (u7 u8 u9 u10 u11 u12 u13 u14 u15 u16 u17 u18 u19 u20 u21 u22 u23 u24 u25 u26 u27 u28 u29 u30 u31 u32 u33 u34 u35 u36 u37 u38 u39 u40 u41 u42 u43 u44 u45 u46 u47 u48 : Value) (ds : List Deferred), (∃ (vv g : Nat) (Ds : List Nat), 1 ≤ vv ∧ vv ≤ v + 1 ∧ u7 = .pointer (some ⟨g, 0, none⟩) ∧ ds = marks Ds ∧ BdL w A v c Ds w' ∧ w'.heap[g]? = some (.cells #[.int .i64 (vv : Nat)] 3 (0, 0)) ∧ w.heap.size + 4 ≤ g ∧ BdNo W v n k vv) ∧ a' = ⟨#[.slice A v c, undef, .pointer (some ⟨w.heap.size, 0, none⟩), .pointer (some ⟨w.heap.size + 1, 0, none⟩), .pointer (some ⟨w.heap.size + 1 + 1, 0, none⟩), .pointer (some ⟨w.heap.size + 1 + 1 + 1, 0, none⟩), .int .i64 (k : Nat), u7, u8, u9, u10, u11, u12, u13, u14, u15, u16, u17, u18, u19, u20, u21, u22, u23, u24, u25, u26, u27, u28, u29, u30, u31, u32, u33, u34, u35, u36, u37, u38, u39, u40, u41, u42, u43, u44, u45, u46, u47, u48], ds⟩
def bdM2 (v : Nat) (a' : Act) (w' : World) : Nat := v + 1 - (match a'.tmps.getD 7 undef with | .pointer (some p) => (intOf ((w'.cell? p).getD undef)).toNat | _ => 0)
set_option maxRecDepth 100000 in
set_option maxHeartbeats 6400000 in
theorem Bend_yes (A : Option Addr) (v n c : Nat) (W : List (List Nat)) (w : World) (hW : BOk W v n) (hv : votesB (upp W) = true) (hA : RowsA w w.heap.size A (upp W)) (hno : axF W (List.range n) (List.range v) = none) (hn3 : 3 ≤ n) :
    Calls Try.prog 47 #[.slice A v c] w (BendPost W v n w) := by
  have hn5 := hW.nle
  have hn1 := hW.npos
  have hv9 := hW.le
  have hv1 := hW.pos
  have HV := hide (fun w' (hw' : Below w.heap.size w w') => by
    have := valid_any A v c w'.heap.size (upp W) w' (by rw [upp_length, hW.len]) (by omega) (fun l hl => by have := (ordB_iff.1 ((votesB_iff.1 hv).2.2 l hl)).1; have := (votesB_iff.1 hv).2.1; omega) (hA.next hw')
    rw [hv] at this
    exact this)
  have HNA := hide (fun w' (hw' : Below w.heap.size w w') => names_any A v n c w.heap.size W w' hW (hA.below hw'))
  have HU := hide (fun k (hk : k ≤ 60) w' => upTo_any k w' hk)
  have HAX := hide (fun w' (hw' : RowsA w' w'.heap.size A (upp W)) X kn cx Y vn cy (nm vs : List Nat) (h1 : nm.length = kn) (h2 : 1 ≤ kn) (h3 : kn ≤ 60) (h4 : IntsA w' w'.heap.size X (up nm)) (h5 : vs.length = vn) (h6 : vn ≤ 60) (h7 : ∀ i, i < vn → vs.getD i 0 < v) (h8 : IntsA w' w'.heap.size Y (up vs)) =>
    axis_any A v n c X kn cx Y vn cy W nm vs w' hW hw' h1 h2 h3 h4 h5 h6 h7 h8)
  have HCH := hide (fun w' a b (ha : a ≤ 60) (hb : b ≤ 60) => choices_any w' a b ha hb)
  have HRV : Hid (∀ i, i < v → (List.range v).getD i 0 < v) := fun i hi => by rw [List.getD_eq_getElem?_getD, List.getElem?_range hi]; exact hi
  have HFIN : Hid (bdN W v n n v ≠ none) := by
    show _ ≠ none
    intro h
    rw [bdN, List.findSome?_eq_none_iff] at h
    have h1 := h (List.range n) (by rw [chsG_nil]; exact range_ris n)
    rw [Option.map_eq_none_iff, bdV, List.find?_eq_none] at h1
    have h2 := h1 (List.range v) (by rw [chsG_nil]; exact range_ris v)
    rw [hno] at h2
    exact h2 rfl
  have hqe := fun (w : World) (a : Option Addr) (n c n' c' : Nat) => Lib.run_eql_slice_nil (P := Try.prog) w 23 _ a n c n' c' Try.underlying23
  have hqn := fun (w : World) (a : Option Addr) (l c : Nat) => Go.run_neq_slice_nil (P := Try.prog) w 23 _ a l c Try.underlying23
  have HGO : Hid (Goes Try.prog 101) := goes_of Try.func101 (by kernel_rfl) (by kernel_rfl)
  have HNO := hide hno
  have HA := hide hA
  clear hA hW hv hno
  refine calls_of_marks Try.func47 rfl ?_
  simp only [Try.ntmps47, List.size_toArray, List.length_cons, List.length_nil, Nat.reduceAdd, Nat.reduceSub, Array.replicate_succ, Array.replicate_zero, List.push_toArray, List.append_toArray, List.nil_append, List.cons_append]
  go_wp2_with fail
  obtain ⟨W1, hW1⟩ : ∃ W1, (((w.alloc (.cells #[.slice none 0 0] 23)).alloc (.cells #[.slice none 0 0] 23)).alloc (.cells #[.int .i64 0] 24)).alloc (.cells #[.slice A v c] 67) = W1 := ⟨_, rfl⟩
  have hb1 : Below w.heap.size w W1 := by subst hW1; exact ((((Below.refl _ _).alloc (Nat.le_refl _) _).alloc (by simp) _).alloc (by simp <;> omega) _).alloc (by simp <;> omega) _
  have hs1 : W1.heap.size = w.heap.size + 4 := by subst hW1; simp
  have p0 : W1.heap[w.heap.size]? = some (.cells #[.slice none 0 0] 23 (0, 0)) := by subst hW1; exact alloc_old _ _ _ (by simp <;> omega) (alloc_old _ _ _ (by simp <;> omega) (alloc_old _ _ _ (by simp) (alloc_new _ _ _ rfl)))
  have p1 : W1.heap[w.heap.size + 1]? = some (.cells #[.slice none 0 0] 23 (0, 0)) := by subst hW1; exact alloc_old _ _ _ (by simp <;> omega) (alloc_old _ _ _ (by simp) (alloc_new _ _ _ (by simp)))
  have p2 : W1.heap[w.heap.size + 1 + 1]? = some (.cells #[.int .i64 0] 24 (0, 0)) := by subst hW1; exact alloc_old _ _ _ (by simp) (alloc_new _ _ _ (by simp))
  have p3 : W1.heap[w.heap.size + 1 + 1 + 1]? = some (.cells #[.slice A v c] 67 (0, 0)) := by subst hW1; exact alloc_new _ _ _ (by simp)
  have hL1 : BdL w A v c [] W1 := ⟨p0, p1, p2, p3, hb1, ⟨List.nodup_nil, fun D hD => nomatch hD⟩⟩
  rw [hW1]
  have HL1 := hide hL1
  clear hW1 hb1 hs1 p0 p1 p2 p3 hL1
  have HB1 := hide HL1.out.bel
  have q3 := blk_cell HL1.out.bb 0
  simp only [List.getElem?_toArray, List.getElem?_cons_zero] at q3
  go_upto_region 4 with (go_at_call 62; refine (HV.out _ HB1.out).mono ?_; rintro e wq ⟨rfl, hb⟩; have HLQ := hide (HL1.out.next hb); clear hb)
  clear q3
  have HSS : Hid (∀ w', Below wq.heap.size wq w' → w'.cell? ⟨w.heap.size + 1 + 1 + 1, 0, none⟩ = some (.slice A v c) ∧ Below wq.heap.size wq w') := fun w' h => ⟨blk_cell (HLQ.out.next h).bb 0, h⟩
  have HBQ := hide HLQ.out.bel
  clear HL1 HB1
  go_cut [22] from 14 to 22 (fun u22 w1 => u22 = .bool false ∧ Below wq.heap.size wq w1)
  case first =>
    refine wp_region_noPanic ?_
    refine wp_region_held_drew (S := (fun w' => w'.cell? ⟨w.heap.size + 1 + 1 + 1, 0, none⟩ = some (.slice A v c) ∧ Below wq.heap.size wq w')) (by kernel_rfl) (HSS.out _ (Below.refl _ wq).drew) (fun hHeld => ?_)
    show wpAnyH _ _ _ _ _ _ (#[false, false, false, false, false, false, false, false, false] : Array Bool) _ _
    refine wpAnyH_take (i := 0) (v := .slice A v c) rfl (by kernel_rfl) (by kernel_rfl) (by kernel_rfl) (fun _ _ _ h => h) (Or.inl ⟨by rfl, ?_⟩) hHeld ?_
    · (intro w' hSw; obtain ⟨y1, y2⟩ := hSw; go_simp)
    try simp only [Act.put, List.setIfInBounds_toArray, List.set_cons_zero, List.set_cons_succ]
    refine wpAnyH_take (i := 1) (v := .slice A v c) rfl (by kernel_rfl) (by kernel_rfl) (by kernel_rfl) (fun _ _ _ h => h) (Or.inl ⟨by rfl, ?_⟩) hHeld ?_
    · (intro w' hSw; obtain ⟨y1, y2⟩ := hSw; go_simp)
    try simp only [Act.put, List.setIfInBounds_toArray, List.set_cons_zero, List.set_cons_succ]
    refine wpAnyH_take (i := 4) (v := .slice A v c) rfl (by kernel_rfl) (by kernel_rfl) (by kernel_rfl) (fun _ _ _ h => h) (Or.inl ⟨by rfl, ?_⟩) hHeld ?_
    · (intro w' hSw; obtain ⟨y1, y2⟩ := hSw; go_simp)
    try simp only [Act.put, List.setIfInBounds_toArray, List.set_cons_zero, List.set_cons_succ]
    refine wpAnyH_take (i := 5) (v := .int .i64 (v : Nat)) rfl (by kernel_rfl) (by kernel_rfl) (by kernel_rfl) (fun _ _ _ h => h) (Or.inl ⟨by rfl, ?_⟩) hHeld ?_
    · (intro w' hSw; obtain ⟨y1, y2⟩ := hSw; go_simp)
    try simp only [Act.put, List.setIfInBounds_toArray, List.set_cons_zero, List.set_cons_succ]
    have hB : Below wq.heap.size wq wq.drew := (Below.refl _ wq).drew
    refine wpAnyH_ready (rs := [2]) (by kernel_rfl) (by simp) ?_
    refine AllReadyH.cons rfl (fun K hK => ?_) AllReadyH.nil
    clear hHeld
    go_simp
    refine (HNA.out _ (HBQ.out.trans (hB.mono HBQ.out.size))).mono ?_
    rintro e w' ⟨rfl, rfl⟩
    try go_wp2_with fail
    refine hK.out _ _ (HSS.out _ hB) (fun hHeld => ?_)
    clear hK K
    try simp only [List.getElem_toArray, List.getElem_cons_succ, List.getElem_cons_zero, put_lit, List.set_cons_zero, List.set_cons_succ]
    refine wpAnyH_ready (rs := [3]) (by kernel_rfl) (by simp) ?_
    refine AllReadyH.cons rfl (fun K hK => ?_) AllReadyH.nil
    clear hHeld
    go_simp
    refine (HU.out n (by omega) _).mono ?_
    rintro e v1 ⟨H3, k3, rfl, hk3, ho, hbn⟩
    try go_wp2_with fail
    have i3 := ints_of_own ho
    replace hB := hB.trans (hbn.mono hB.size)
    clear hbn ho
    refine hK.out _ _ (HSS.out _ hB) (fun hHeld => ?_)
    clear hK K
    try simp only [List.getElem_toArray, List.getElem_cons_succ, List.getElem_cons_zero, put_lit, List.set_cons_zero, List.set_cons_succ]
    refine wpAnyH_ready (rs := [6]) (by kernel_rfl) (by simp) ?_
    refine AllReadyH.cons rfl (fun K hK => ?_) AllReadyH.nil
    clear hHeld
    go_simp
    refine (HU.out v (by omega) _).mono ?_
    rintro e v2 ⟨H6, k6, rfl, hk6, ho, hbn⟩
    try go_wp2_with fail
    replace i3 := i3.next hbn
    have i6 := ints_of_own ho
    replace hB := hB.trans (hbn.mono hB.size)
    clear hbn ho
    refine hK.out _ _ (HSS.out _ hB) (fun hHeld => ?_)
    clear hK K
    try simp only [List.getElem_toArray, List.getElem_cons_succ, List.getElem_cons_zero, put_lit, List.set_cons_zero, List.set_cons_succ]
    refine wpAnyH_ready (rs := [7]) (by kernel_rfl) (by simp) ?_
    refine AllReadyH.cons rfl (fun K hK => ?_) AllReadyH.nil
    clear hHeld
    go_simp
    refine (HAX.out _ (HA.out.next (HBQ.out.trans (hB.mono HBQ.out.size))) H3 n k3 H6 v k6 (List.range n) (List.range v) (by simp) hn1 (by omega) i3 (by simp) (by omega) HRV.out i6).mono ?_
    rw [HNO.out]
    rintro e w9 ⟨X9, m9, c9, rfl, ⟨rfl, rfl, rfl⟩, hbn⟩
    try go_wp2_with fail
    replace hB := hB.trans (hbn.mono hB.size)
    clear hbn
    refine hK.out _ _ (HSS.out _ hB) (fun hHeld => ?_)
    clear hK K
    try simp only [List.getElem_toArray, List.getElem_cons_succ, List.getElem_cons_zero, put_lit, List.set_cons_zero, List.set_cons_succ]
    refine wpAnyH_ready (rs := [8]) (by kernel_rfl) (by simp) ?_
    refine AllReadyH.cons rfl (fun K hK => ?_) AllReadyH.nil
    clear hHeld
    go_simp
    refine hK.out _ _ (HSS.out _ hB) (fun hHeld => ?_)
    clear hK K
    try simp only [List.getElem_toArray, List.getElem_cons_succ, List.getElem_cons_zero, put_lit, List.set_cons_zero, List.set_cons_succ]
    refine wpAnyH_done (by kernel_rfl) ?_ _
    refine NoPanic.normal ?_
    go_wp2_with fail
    go_meet
    exact ⟨rfl, hB⟩
  case rest =>
    obtain ⟨rfl, hb1⟩ := hcut
    have HL2 := hide (HLQ.out.next hb1)
    clear hb1 HSS HLQ HBQ
    go_wp2_with fail
    refine wp_loop (BdR1 W v n c A w) (fun a' _ => n - (intOf (a'.tmps.getD 6 undef)).toNat) ?_ ?_
    · exact ⟨_, _, _, _, _, _, _, _, _, _, _, _, _, _, _, _, _, _, _, _, _, _, _, _, _, _, _, _, _, _, _, _, _, _, _, _, _, _, _, _, _, _, _, _, ⟨3, [], Nat.le_refl _, hn3, rfl, rfl, HL2.out, fun k' v' h3 h1 hv h => by omega⟩, rfl⟩
    clear HL2
    intro a' wr hinv
    obtain ⟨u6, u7, u8, u9, u10, u11, u12, u13, u14, u15, u16, u17, u18, u19, u20, u21, u22, u23, u24, u25, u26, u27, u28, u29, u30, u31, u32, u33, u34, u35, u36, u37, u38, u39, u40, u41, u42, u43, u44, u45, u46, u47, u48, ds, ⟨k, Ds, hk3, hkn, rfl, rfl, hL, hno⟩, rfl⟩ := hinv
    have HL := hide hL
    have HN1 := hide hno
    have e3 := lt_of_block hL.bb
    clear hL hno
    go_wp2_with fail
    have hba : Below wr.heap.size wr (wr.alloc (.cells #[.int .i64 1] 3)) := (Below.refl _ _).alloc (Nat.le_refl _) _
    have HLa := hide (HL.out.next hba)
    have HGa : Hid ((wr.alloc (.cells #[.int .i64 1] 3)).heap[wr.heap.size]? = some (.cells #[.int .i64 ((1 : Nat) : Int)] 3 (0, 0))) := alloc_new _ _ _ rfl
    have hsa := HL.out.bel.size
    clear hba
    refine wp_loop (BdR2 W v n c k A w) (bdM2 v) ?_ ?_
    · exact ⟨_, _, _, _, _, _, _, _, _, _, _, _, _, _, _, _, _, _, _, _, _, _, _, _, _, _, _, _, _, _, _, _, _, _, _, _, _, _, _, _, _, _, _, ⟨1, wr.heap.size, Ds, Nat.le_refl _, by omega, rfl, rfl, HLa.out, HGa.out, by omega, HN1.out⟩, rfl⟩
    clear HLa HGa HL HN1 e3 hsa
    intro a' w1 hinv
    obtain ⟨u7, u8, u9, u10, u11, u12, u13, u14, u15, u16, u17, u18, u19, u20, u21, u22, u23, u24, u25, u26, u27, u28, u29, u30, u31, u32, u33, u34, u35, u36, u37, u38, u39, u40, u41, u42, u43, u44, u45, u46, u47, u48, ds, ⟨vv, g, Ds, hv1', hvv, rfl, rfl, hL, hg, hg4, hno⟩, rfl⟩ := hinv
    have HL := hide hL
    have HG := hide hg
    have HN1 := hide hno
    have e3 := lt_of_block hL.bb
    have hgl := lt_of_block hg
    have q5 := blk_cell hL.bb 0
    have q7 := blk_cell hg 0
    simp only [List.getElem?_toArray, List.getElem?_cons_zero] at q5 q7
    clear hL hg hno
    by_cases hlt : vv ≤ v
    · go_wp2_with (first
        | (go_at_call 60; refine (HNA.out _ HL.out.bel).mono ?_; rintro e w' ⟨rfl, rfl⟩)
        | (go_at_call 79; refine (HCH.out w1 n k (by omega) (by omega)).mono ?_; rintro e w8 ⟨rfl, hw8, hit⟩; have HIT := hide hit; have HW8 := hide hw8; clear hit hw8))
      have hs8 : w8.heap.size = w1.heap.size + 2 := by rw [HW8.out]; simp
      have hb8 : Below w1.heap.size w1 w8 := by rw [HW8.out]; exact ((Below.refl _ _).alloc (Nat.le_refl _) _).alloc (by simp) _
      have HL8 := hide (HL.out.next hb8)
      have hbel8 := HL8.out.bel
      have hg8 : w8.heap[g]? = some (.cells #[.int .i64 (vv : Nat)] 3 (0, 0)) := (hb8.block g hgl).trans HG.out
      have h0 : BdI w.heap.size w8.heap.size k vv (fun q => q = w.heap.size ∨ q = w.heap.size + 1 ∨ q = w.heap.size + 1 + 1) (fun _ => False) w8 (fun q => q = w.heap.size ∨ q = w.heap.size + 1 ∨ q = w.heap.size + 1 + 1) none w8 :=
        ⟨fun _ _ _ => rfl, fun q h => h, .inl rfl, .inr (.inl rfl), .inr (.inr rfl), fun q h => .inl h, fun _ => ⟨HL8.out.c1, HL8.out.c2, HL8.out.c3⟩, fun _ _ e => nomatch e⟩
      have H0 := hide h0
      have hbs := hbel8.size
      have e3' : w.heap.size + 1 + 1 + 1 < w8.heap.size := by omega
      have HAr : Hid (∀ w', (∀ q, q < w.heap.size → w'.heap[q]? = w8.heap[q]?) → w8.heap.size ≤ w'.heap.size → RowsA w' w'.heap.size A (upp W)) := fun w' h h' =>
        ((HA.out.below hbel8).keep fun p hp => World.cell?_of_block (h p.block hp)).more (by omega)
      clear h0 q5 q7
      refine wp_loop_over (P := Try.prog) (m := 1) (w0 := w8) (xs := chsG n k 0 []) (R := fun q => q = w1.heap.size ∨ q = w1.heap.size + 1) (bdSt1 W v vv) (BdI w.heap.size w8.heap.size k vv (fun q => q = w.heap.size ∨ q = w.heap.size + 1 ∨ q = w.heap.size + 1 + 1) (fun _ => False) w8) (fun o => o.length = k) (fun q => q = w.heap.size ∨ q = w.heap.size + 1 ∨ q = w.heap.size + 1 + 1) none
        rfl rfl HGO.out HIT.out (fun o ho => by rw [chsG_nil] at ho; exact (mem_ris.1 ho).1) (fun q h => by omega) (fun _ _ => rfl) (Nat.le_refl _)
        (fun F s X Y => BdI.stab (fun q h => h.elim) F s X Y) H0.out (fun q hq => by omega) (fun q hq hR => by omega) ?_ ?_
      · intro l F s x X cx W9 K hR hK
        have hxl : x.length = k := hR.mem
        rw [hxl] at hK ⊢
        gi_wp2
        refine hK _ (W9.alloc (.cells #[.slice X k cx] 23)) (Only.of_below ((Below.refl _ _).alloc (Nat.le_refl _) _)) ?_
        have hl9 : l < W9.heap.size := by obtain ⟨r, hr⟩ := hR.rcd; exact (Array.getElem?_eq_some_iff.1 hr).1
        have HLT9 := hide hR.lt
        clear hK hR
        intro W2 hR hO hs
        have hs2 : W2.heap.size = W9.heap.size + 1 := by rw [hs]; simp
        have hob : W2.heap[W9.heap.size]? = some (.cells #[.slice X k cx] 23 (0, 0)) := (hO.block _ (by simp) (by omega)).trans (alloc_new _ _ _ rfl)
        have hi := hR.inv
        have hcap : k ≤ cx := by have := hR.cap; omega
        have hbase := hR.base
        have z5 : W2.heap[w.heap.size + 1 + 1 + 1]? = some (.cells #[.slice A v c] 67 (0, 0)) := (hi.keep _ e3' (by omega)).trans HL8.out.bb
        have z7 : W2.heap[g]? = some (.cells #[.int .i64 (vv : Nat)] 3 (0, 0)) := (hi.keep _ (by omega) (by omega)).trans hg8
        have q5 := blk_cell z5 0
        have q7 := blk_cell z7 0
        simp only [List.getElem?_toArray, List.getElem?_cons_zero] at q5 q7
        have HI := hide hi
        have HR := hide hR
        have HXL := hide hxl
        have Z5 := hide z5
        have HOB := hide hob
        clear hi hR hxl z5 z7 hob hO hs
        gi_wp2_with (refine ⟨trivial, ?_⟩; gi_at_call 79; refine (CallsIn.inRound l (callsIn_wide.2 (HCH.out W2 v vv (by omega) (by omega)))).mono ?_; rintro e w10 ⟨rfl, hw10, hit⟩; have HIT2 := hide hit; have HW10 := hide hw10; clear hit hw10)
        clear q5 q7
        have hs10 : w10.heap.size = W2.heap.size + 2 := by rw [HW10.out]; simp
        have hb10 : Below W2.heap.size W2 w10 := by rw [HW10.out]; exact ((Below.refl _ _).alloc (Nat.le_refl _) _).alloc (by simp) _
        have hi10 := HI.out.stab (fun q h => h.elim) F s W2 w10 (fun q hq => hb10.block q (by rcases hq with h | h; exact HR.out.lt q h; omega)) hb10.size hb10.tape
        have HI10 := hide hi10
        have h0i := hi10.inner (Pn' := fun q => (Value.slice X k cx).ownBlock = some q) (fun q h => h)
        have H0i := hide h0i
        have hx10 : IntsA w10 w10.heap.size X (up x) := HR.out.ints.next hb10
        have HX10 := hide hx10
        have hXown : ∀ q, (Value.slice X k cx).ownBlock = some q → w8.heap.size ≤ q ∧ ¬ F q ∧ q < W2.heap.size := fun q hq => by
          have h1 := HR.out.off q (by rw [HXL.out]; exact hq)
          refine ⟨h1.1, h1.2.1, ?_⟩
          obtain ⟨b', o', x', e1, h2, _⟩ := HR.out.ints.at_ (k := 0) (by rw [up_length, HXL.out]; omega)
          subst e1
          have : b' = q := by simpa [Value.ownBlock] using hq
          omega
        have HXO := hide hXown
        have hFo : ∀ q, F q → (q = w.heap.size ∨ q = w.heap.size + 1 ∨ q = w.heap.size + 1 + 1) ∨ w8.heap.size ≤ q := HI.out.fo
        have HFO := hide hFo
        have z5 : w10.heap[w.heap.size + 1 + 1 + 1]? = some (.cells #[.slice A v c] 67 (0, 0)) := (hb10.block _ (by omega)).trans Z5.out
        have z8 : w10.heap[W9.heap.size]? = some (.cells #[.slice X k cx] 23 (0, 0)) := (hb10.block _ (by omega)).trans HOB.out
        have hold10 : ∀ q, q < w.heap.size → w10.heap[q]? = w8.heap[q]? := fun q hq => (hb10.block q (by omega)).trans (HI.out.keep q (by omega) (by omega))
        have HOLD := hide hold10
        have Z5' := hide z5
        have Z8 := hide z8
        have HF9 : Hid (¬ F W9.heap.size) := fun h => by have := HLT9.out _ h; omega
        clear hi10 h0i hx10 hXown hFo z5 z8 hold10
        have hl0 : ∃ r, w10.heap[l]? = some (.loop r) := by obtain ⟨r, hr⟩ := HR.out.rcd; exact ⟨r, (hb10.block _ (lt_of_rec hr)).trans hr⟩
        have hSS : ∀ o ∈ chsG v vv 0 [], o.length = vv ∧ ∀ i, i < vv → o.getD i 0 < v := fun o ho => by
          rw [chsG_nil] at ho
          obtain ⟨h1, h2⟩ := mem_ris.1 ho
          exact ⟨h1, fun i hi => (h2.ge _ (getD_mem (by rw [h1]; exact hi))).2⟩
        have hR1 : ∀ q, (q = W2.heap.size ∨ q = W2.heap.size + 1) → q < w10.heap.size := fun q h => by omega
        have hF1 : ∀ q, F q → q < w10.heap.size := fun q hq => by have := HR.out.lt q hq; omega
        have hF2 : ∀ q, F q → ¬ (q = W2.heap.size ∨ q = W2.heap.size + 1) := fun q hq h => by have := HR.out.lt q hq; omega
        have hPn : ∀ q, (Value.slice X k cx).ownBlock = some q → q < w10.heap.size := fun q h => by have := HXO.out q h; omega
        refine wpIn_loop_over (l₀ := l) (P := Try.prog) (m := 1) (w0 := w10) (xs := chsG v vv 0 []) (R := fun q => q = W2.heap.size ∨ q = W2.heap.size + 1) (bdSt W x) (BdI w.heap.size w8.heap.size k vv F (fun q => (Value.slice X k cx).ownBlock = some q) w10) (fun o => o.length = vv ∧ ∀ i, i < vv → o.getD i 0 < v) F s
          hl0 ?_ ?_ HGO.out HIT2.out hSS hR1 (fun _ _ => rfl) (Nat.le_refl _)
          (fun F s X Y => BdI.stab hPn F s X Y) H0i.out hF1 hF2 ?_ ?_
        · rfl
        · simp [Act.eval]
        · intro l2 F2 s2 vs Y cy W11 K2 hR2 hK2
          have hvl0 : vs.length = vv := hR2.mem.1
          rw [hvl0] at hK2 ⊢
          gi_wp2
          refine hK2 _ W11 (Only.refl _ _) ?_
          clear hK2 hR2 hvl0
          intro W12 hR2 hO2 hs2'
          have hi2 := hR2.inv
          have hvb := hR2.mem.2
          have hvl : vs.length = vv := hR2.mem.1
          have hcap2 : vv ≤ cy := by have := hR2.cap; omega
          have hbase2 := hR2.base
          have z5 : W12.heap[w.heap.size + 1 + 1 + 1]? = some (.cells #[.slice A v c] 67 (0, 0)) := (hi2.keep _ (by omega) (fun h => by have := HFO.out _ h; omega)).trans Z5'.out
          have z8 : W12.heap[W9.heap.size]? = some (.cells #[.slice X k cx] 23 (0, 0)) := (hi2.keep _ (by omega) HF9.out).trans Z8.out
          have q5 := blk_cell z5 0
          have q8 := blk_cell z8 0
          simp only [List.getElem?_toArray, List.getElem?_cons_zero] at q5 q8
          have hAW := HAr.out W12 (fun q hq => (hi2.keep q (by omega) (fun h => by have := HFO.out _ h; omega)).trans (HOLD.out q hq)) (by omega)
          have hXW : IntsA W12 W12.heap.size X (up x) := HX10.out.keepR (by omega) fun b o e hb => hi2.keep b hb (fun hf => (HXO.out b (by subst e; rfl)).2.1 hf)
          have HAXX := hide (HAX.out W12 hAW X k cx Y vv cy x vs HXL.out (by omega) (by omega) hXW hvl (by omega) hvb hR2.ints)
          have HI2 := hide hi2
          have HR2 := hide hR2
          have HVL := hide hvl
          have HXW := hide hXW
          have Z8' := hide z8
          have n8 : W9.heap.size < W12.heap.size := lt_of_block z8
          have hoffY : ∀ q, (Value.slice Y vv cy).ownBlock = some q → w10.heap.size ≤ q ∧ ¬ F2 q ∧ q < W12.heap.size := fun q hq => by
            have h1 := hR2.off q (by rw [hvl]; exact hq)
            refine ⟨h1.1, h1.2.1, ?_⟩
            obtain ⟨b', o', x', e1, h2, _⟩ := hR2.ints.at_ (k := 0) (by rw [up_length, hvl]; omega)
            subst e1
            have : b' = q := by simpa [Value.ownBlock] using hq
            omega
          have HOY := hide hoffY
          clear hi2 hR2 hvb hvl z5 z8 hAW hXW hO2 hs2' hoffY
          cases hax : axF W x vs with
          | some o =>
            rw [hax] at HAXX
            gi_wp2_with (refine ⟨trivial, ?_⟩; gi_at_call 72; refine (CallsIn.inRound l2 (callsIn_wide.2 HAXX.out)).mono ?_; rintro e w13 ⟨X9, m9, c9, rfl, ⟨rfl, hc9, hol, hI9⟩, hb13⟩; obtain ⟨b', o', x', rfl, h2, _⟩ := hI9.at_ (k := 0) (by rw [up_length, hol]; omega); have HB13 := hide hb13; clear hb13 hI9 hol h2)
            have hb13 := HB13.out
            have hst : bdSt W x s2 vs = (s2, none) := by rw [bdSt, hax]; rfl
            rw [hst]
            exact ⟨rfl, F2, HI2.out.stab hPn F2 s2 _ _ (fun q hq => hb13.block q (by rcases hq with h | h; exact HR2.out.lt q h; omega)) hb13.size hb13.tape, fun q hq => .inl hq, fun q hq => Nat.lt_of_lt_of_le (HR2.out.lt q hq) hb13.size, Only.of_below hb13⟩
          | none =>
            rw [hax] at HAXX
            have HAX0 := hide hax
            clear hax
            gi_wp2_with (refine ⟨trivial, ?_⟩; gi_at_call 72; refine (CallsIn.inRound l2 (callsIn_wide.2 HAXX.out)).mono ?_; rintro e w13 ⟨X9, m9, c9, rfl, ⟨rfl, rfl, rfl⟩, hb13⟩; have HB13 := hide hb13; clear hb13)
            have hb13 := HB13.out
            obtain ⟨a1, a2, a3, y1, y2, y3⟩ := HI2.out.cells
            have l1 := lt_of_block y1
            have l2' := lt_of_block y2
            have l3 := lt_of_block y3
            have h3 := St3.begin (u1 := .slice Y vv cy) (u2 := .slice X k cx) (u3 := .int .i64 0) ((hb13.block _ l1).trans y1) ((hb13.block _ l2').trans y2) ((hb13.block _ l3).trans y3)
            have hfin : ∀ V, St3 w13 w.heap.size (.slice Y vv cy) (.slice X k cx) (.int .i64 0) true true true V → endOf (BdI w.heap.size w8.heap.size k vv F (fun q => (Value.slice X k cx).ownBlock = some q) w10) F2 (Value.slice Y vv cy).ownBlock (some (vs, x)) W12 V := fun V hV => by
              obtain ⟨_, v1⟩ := hV.c1
              obtain ⟨_, v2⟩ := hV.c2
              obtain ⟨_, v3⟩ := hV.c3
              simp only [if_true] at v1 v2 v3
              have hs13 := hb13.size
              have hVs := hV.size
              have far : ∀ q, q < W12.heap.size → q ≠ w.heap.size → q ≠ w.heap.size + 1 → q ≠ w.heap.size + 1 + 1 → V.heap[q]? = W12.heap[q]? := fun q h1 h2 h3 h4 => (hV.far q h2 h3 h4).trans (hb13.block q h1)
              have fB := HI10.out.f1
              have fB1 := HI10.out.f2
              have fB2 := HI10.out.f3
              have ne : ∀ (G : Nat → Prop) (q : Nat), G w.heap.size → G (w.heap.size + 1) → G (w.heap.size + 1 + 1) → ¬ G q → q ≠ w.heap.size ∧ q ≠ w.heap.size + 1 ∧ q ≠ w.heap.size + 1 + 1 := fun G q g1 g2 g3 h => ⟨fun e => h (e ▸ g1), fun e => h (e ▸ g2), fun e => h (e ▸ g3)⟩
              refine ⟨fun q => F2 q ∨ (Value.slice Y vv cy).ownBlock = some q, ⟨fun q h1 h2 => ?_, fun q h => .inl (HI2.out.sub q h), .inl HI2.out.f1, .inl HI2.out.f2, .inl HI2.out.f3, fun q hq => ?_, fun e => (nomatch e), fun vs' nm' e => ?_⟩, fun q hq => ?_, fun q hq => ?_, ⟨hV.os.trans hb13.os, hV.tape.trans hb13.tape, hV.output.trans hb13.output, by omega, fun q h1 h2 => ?_⟩⟩
              · obtain ⟨g1, g2, g3⟩ := ne F q fB fB1 fB2 h2
                exact (far q (by omega) g1 g2 g3).trans (HI2.out.keep q h1 h2)
              · rcases hq with h | h
                · exact HI2.out.fo q h
                · exact .inr (HOY.out q h).1
              · injection e with e
                injection e with e1 e2
                subst e1; subst e2
                have hwz : w.heap.size + 1 + 1 < w8.heap.size := by omega
                refine ⟨Y, cy, X, cx, v1, v2, v3, HVL.out, HXL.out, hcap2, hcap, HR2.out.ints.keepR (by omega) fun b o e hb => ?_, HXW.out.keepR (by omega) fun b o e hb => ?_, fun q hq => ?_⟩
                · have := HOY.out b (by subst e; rfl)
                  exact far b hb (by omega) (by omega) (by omega)
                · have := HXO.out b (by subst e; rfl)
                  exact far b hb (by omega) (by omega) (by omega)
                · rcases hq with h | h
                  · have := HOY.out q h
                    exact ⟨by omega, .inl (.inr h)⟩
                  · exact ⟨(HXO.out q h).1, .inr h⟩
              · rcases hq with h | h
                · exact .inl h
                · exact .inr (.inl h)
              · rcases hq with h | h
                · have := HR2.out.lt q h; omega
                · have := HOY.out q h; omega
              · obtain ⟨g1, g2, g3⟩ := ne F2 q HI2.out.f1 HI2.out.f2 HI2.out.f3 h2
                exact far q h1 g1 g2 g3
            have HFN := hide hfin
            have hst : bdSt W x s2 vs = (some (vs, x), some .ret) := by rw [bdSt, HAX0.out]; rfl
            have HK8 : Hid (∀ V : World, (∀ q, q ≠ w.heap.size → q ≠ w.heap.size + 1 → q ≠ w.heap.size + 1 + 1 → V.heap[q]? = w13.heap[q]?) → V.cell? ⟨W9.heap.size, 0, none⟩ = some (.slice X k cx)) := fun V h =>
              blk_cell ((h _ (by omega) (by omega) (by omega)).trans ((hb13.block _ n8).trans Z8'.out)) 0
            have HST := hide hst
            clear hfin hst y1 y2 y3 hb13 q5 q8
            refine wpIn_region_round (by kernel_rfl) (by kernel_rfl) (fun h => (by obtain ⟨_, _, h⟩ := h; exact h)) ?_
            refine wpAny_of_held (S := fun w' => w'.cell? ⟨W9.heap.size, 0, none⟩ = some (.slice X k cx)) _ _ _ _ ?_
            show wpAnyH _ _ _ _ _ _ (#[false, false, false, false, false] : Array Bool) _ (World.drew w13)
            have hHeld : (World.drew w13).cell? ⟨W9.heap.size, 0, none⟩ = some (.slice X k cx) := HK8.out _ h3.far
            generalize World.drew w13 = V0 at h3 hHeld ⊢
            refine wpAnyH_take (i := 0) (v := .slice Y vv cy) rfl (by kernel_rfl) (by kernel_rfl) (by kernel_rfl) (fun _ _ _ h => h) (Or.inl ⟨by rfl, ?_⟩) hHeld ?_
            · (intro w' hSw; go_simp)
            try simp only [List.getElem_toArray, List.getElem_cons_succ, List.getElem_cons_zero, put_lit, List.set_cons_zero, List.set_cons_succ]
            refine wpAnyH_take (i := 1) (v := .slice X k cx) rfl (by kernel_rfl) (by kernel_rfl) (by kernel_rfl) (fun _ _ _ h => h) (Or.inl ⟨by rfl, ?_⟩) hHeld ?_
            · (intro w' hSw; go_simp)
            try simp only [List.getElem_toArray, List.getElem_cons_succ, List.getElem_cons_zero, put_lit, List.set_cons_zero, List.set_cons_succ]
            refine wpAnyH_ready (rs := [2]) (by kernel_rfl) (by simp) ?_
            refine AllReadyH.cons rfl (fun K hK => ?_) AllReadyH.nil
            obtain ⟨⟨_, p1⟩, f1, ⟨_, p2⟩, f2, ⟨_, p3⟩, f3⟩ := h3.at_
            clear hHeld
            go_simp
            replace h3 := h3.s1
            clear p1 p2 p3 f1 f2 f3
            refine hK.out _ _ (HK8.out _ h3.far) (fun hHeld => ?_)
            clear hK K
            try simp only [List.getElem_toArray, List.getElem_cons_succ, List.getElem_cons_zero, put_lit, List.set_cons_zero, List.set_cons_succ]
            generalize V0.setCell ⟨w.heap.size, 0, none⟩ (.slice Y vv cy) = V1 at h3 hHeld ⊢
            refine wpAnyH_ready (rs := [3]) (by kernel_rfl) (by simp) ?_
            refine AllReadyH.cons rfl (fun K hK => ?_) AllReadyH.nil
            obtain ⟨⟨_, p1⟩, f1, ⟨_, p2⟩, f2, ⟨_, p3⟩, f3⟩ := h3.at_
            clear hHeld
            go_simp
            replace h3 := h3.s2
            clear p1 p2 p3 f1 f2 f3
            refine hK.out _ _ (HK8.out _ h3.far) (fun hHeld => ?_)
            clear hK K
            try simp only [List.getElem_toArray, List.getElem_cons_succ, List.getElem_cons_zero, put_lit, List.set_cons_zero, List.set_cons_succ]
            generalize V1.setCell ⟨w.heap.size + 1, 0, none⟩ (.slice X k cx) = V2 at h3 hHeld ⊢
            refine wpAnyH_ready (rs := [4]) (by kernel_rfl) (by simp) ?_
            refine AllReadyH.cons rfl (fun K hK => ?_) AllReadyH.nil
            obtain ⟨⟨_, p1⟩, f1, ⟨_, p2⟩, f2, ⟨_, p3⟩, f3⟩ := h3.at_
            clear hHeld
            go_simp
            replace h3 := h3.s3
            clear p1 p2 p3 f1 f2 f3
            refine hK.out _ _ (HK8.out _ h3.far) (fun hHeld => ?_)
            clear hK K
            try simp only [List.getElem_toArray, List.getElem_cons_succ, List.getElem_cons_zero, put_lit, List.set_cons_zero, List.set_cons_succ]
            generalize V2.setCell ⟨w.heap.size + 1 + 1, 0, none⟩ (.int .i64 0) = V3 at h3 hHeld ⊢
            refine wpAnyH_done (by kernel_rfl) ?_ _
            gi_wp2
            rw [HST.out]
            exact ⟨rfl, HFN.out _ h3⟩
        · intro F' W' hI' hsub hlt2 hO'
          rw [bd_run] at hI' ⊢
          have hb10 : Below W2.heap.size W2 w10 := by rw [HW10.out]; exact ((Below.refl _ _).alloc (Nat.le_refl _) _).alloc (by simp) _
          have hend : ∀ s', BdI w.heap.size w8.heap.size k vv F (fun q => (Value.slice X k cx).ownBlock = some q) w10 F' s' W' → endOf (BdI w.heap.size w8.heap.size k vv (fun q => q = w.heap.size ∨ q = w.heap.size + 1 ∨ q = w.heap.size + 1 + 1) (fun _ => False) w8) F (Value.slice X k cx).ownBlock s' W2 W' := fun s' h' => by
            have hsz := hO'.size
            rcases HI10.out.outer h' (by omega) with hout | ⟨q, h1, h2⟩
            · refine ⟨_, hout, fun q hq => ?_, fun q hq => ?_, (Only.of_below (F := F) hb10).trans hO' (fun q _ h => h)⟩
              · rcases hq with h | h
                · rcases hsub q h with h9 | h9
                  · exact .inl h9
                  · exact .inr (.inr (by omega))
                · exact .inr (.inl h.1)
              · rcases hq with h | h
                · exact hlt2 q h
                · have := HXO.out q h.1; omega
            · exfalso
              have := HXO.out q h1
              exact h2 ⟨this.1, this.1⟩
          have HEND := hide hend
          clear hend hsub hlt2 hO' hb10
          cases hfd : (chsG v vv 0 []).find? (fun vs => (axF W x vs).isNone) with
          | none =>
            rw [hfd] at hI'
            have HX := hide (HEND.out _ hI')
            have hst : bdSt1 W v vv s x = (s, none) := by rw [bdSt1, bdV, hfd]
            have HST := hide hst
            clear hI' hst hfd
            simp only []
            gi_wp2
            rw [HST.out, ← hs8]
            exact ⟨rfl, HX.out⟩
          | some vs =>
            rw [hfd] at hI'
            have HX := hide (HEND.out _ hI')
            have hst : bdSt1 W v vv s x = (some (vs, x), some .ret) := by rw [bdSt1, bdV, hfd]
            have HST := hide hst
            clear hI' hst hfd
            simp only []
            gi_wp2
            rw [HST.out, ← hs8]
            exact ⟨rfl, HX.out⟩
      · intro D F' W' hI2 hsub hlt' hO hD hnD hDd
        rw [bd_run1] at hI2 ⊢
        have hDs : DsOk (w.heap.size + 4) (D :: Ds) W' := by
          refine ⟨List.nodup_cons.2 ⟨fun h => ?_, HL8.out.ds.nd⟩, fun E hE => ?_⟩
          · have := lt_of_rec (HL8.out.ds.at_ D h).2
            omega
          · rcases List.mem_cons.1 hE with rfl | hE
            · exact ⟨by omega, hDd⟩
            · have h1 := HL8.out.ds.at_ E hE
              exact ⟨h1.1, (hO.block E (lt_of_rec h1.2) (by omega)).trans h1.2⟩
        have hbW : Below w.heap.size w W' := ⟨hO.os.trans hbel8.os, hO.tape.trans hbel8.tape, hO.output.trans hbel8.output, by have := hO.size; omega, fun q hq => (hO.block q (by omega) (by omega)).trans (hbel8.block q hq)⟩
        have hgW : W'.heap[g]? = some (.cells #[.int .i64 (vv : Nat)] 3 (0, 0)) := (hO.block g (lt_of_block hg8) (by omega)).trans hg8
        have hbbW : W'.heap[w.heap.size + 1 + 1 + 1]? = some (.cells #[.slice A v c] 67 (0, 0)) := (hO.block _ e3' (by omega)).trans HL8.out.bb
        have HDS := hide hDs
        have HBW := hide hbW
        have HGW := hide hgW
        have HBB := hide hbbW
        have hWs := hO.size
        clear hDs hbW hgW hbbW hO hg8 hb8 H0
        cases hfd : (chsG n k 0 []).findSome? (fun nm => (bdV W v vv nm).map fun vs => (vs, nm)) with
        | none =>
          rw [hfd] at hI2
          obtain ⟨j1, j2, j3⟩ := hI2.no rfl
          have HLW : Hid (BdL w A v c (D :: Ds) W') := ⟨j1, j2, j3, HBB.out, HBW.out, HDS.out⟩
          have HN2 : Hid (BdNo W v n k (vv + 1)) := fun k' v' h3 h1 hv h => by
            by_cases e : k' = k ∧ v' = vv
            · rw [e.1, e.2]; exact hfd
            · exact HN1.out k' v' h3 h1 hv (by omega)
          have q7 := blk_cell HGW.out 0
          simp only [List.getElem?_toArray, List.getElem?_cons_zero] at q7
          clear hI2 j1 j2 j3 hfd hsub hlt'
          simp only []
          go_wp2_with fail
          obtain ⟨V, hV⟩ : ∃ V, V = W'.alloc (.cells #[.int .i64 ((vv : Int) + 1)] 3) := ⟨_, rfl⟩
          have hbV : Below W'.heap.size W' V := by subst hV; exact (Below.refl _ _).alloc (Nat.le_refl _) _
          have hgV : V.heap[W'.heap.size]? = some (.cells #[.int .i64 ((vv + 1 : Nat) : Int)] 3 (0, 0)) := by
            rw [show (((vv + 1 : Nat) : Int)) = (vv : Int) + 1 by omega]
            subst hV; exact alloc_new _ _ _ rfl
          have m1 := blk_cell hgV 0
          have m2 := blk_cell HG.out 0
          simp only [List.getElem?_toArray, List.getElem?_cons_zero] at m1 m2
          rw [← hV]
          refine ⟨⟨_, _, _, _, _, _, _, _, _, _, _, _, _, _, _, _, _, _, _, _, _, _, _, _, _, _, _, _, _, _, _, _, _, _, _, _, _, _, _, _, _, _, _, ⟨vv + 1, W'.heap.size, D :: Ds, by omega, by omega, rfl, rfl, HLW.out.next hbV, hgV, by omega, HN2.out⟩, rfl⟩, ?_⟩
          show v + 1 - (intOf ((V.cell? ⟨W'.heap.size, 0, none⟩).getD undef)).toNat < v + 1 - (intOf ((w1.cell? ⟨g, 0, none⟩).getD undef)).toNat
          rw [m1, m2]
          simp [intOf]
          omega
        | some p =>
          obtain ⟨vs, nm⟩ := p
          rw [hfd] at hI2
          have HFD : Hid (bdN W v n k vv = some (vs, nm)) := hfd
          obtain ⟨X, cx, Y, cy, j1, j2, j3, hl1, hl2, hc1, hc2, hXI, hYI, hof⟩ := hI2.yes vs nm rfl
          have J1 := hide j1
          have J2 := hide j2
          have J3 := hide j3
          have HXI := hide hXI
          have HYI := hide hYI
          have HOF := hide hof
          have HL1 := hide hl1
          have HL2 := hide hl2
          clear hfd hI2 j1 j2 j3 hXI hYI hof hsub hlt' hl1 hl2
          simp only []
          go_wp2_with fail
          refine leaves_marks (D :: Ds) (w.heap.size + 4) W' HDS.out fun V hV hVs ho ht hout => ?_
          have hDn : ∀ q, q < w.heap.size + 4 → V.heap[q]? = W'.heap[q]? := fun q hq => hV q fun h => by have := (HDS.out.at_ q h).1; omega
          have x1 := blk_cell ((hDn _ (by omega)).trans J1.out) 0
          have x2 := blk_cell ((hDn _ (by omega)).trans J2.out) 0
          have x3 := blk_cell ((hDn _ (by omega)).trans J3.out) 0
          simp only [List.getElem?_toArray, List.getElem?_cons_zero] at x1 x2 x3
          have hbV : Below w.heap.size w V := ⟨ho.trans HBW.out.os, ht.trans HBW.out.tape, hout.trans HBW.out.output, by have := HBW.out.size; omega, fun q hq => (hDn q (by omega)).trans (HBW.out.block q hq)⟩
          have hoff : ∀ q, (Value.slice X vv cx).ownBlock = some q ∨ (Value.slice Y k cy).ownBlock = some q → V.heap[q]? = W'.heap[q]? := fun q hq => hV q fun h => by
            have h9 := HOF.out q hq
            rcases List.mem_cons.1 h with rfl | h
            · rcases h9.2 with h8 | h8
              · exact hnD h8
              · exact h8
            · have := lt_of_rec (HL8.out.ds.at_ q h).2
              omega
          refine ⟨.tuple #[.slice X vv cx, .slice Y k cy, .int .i64 0], ?_, ⟨k, vv, vs, nm, X, cx, Y, cy, rfl, hk3, hkn, hv1', hlt, HN1.out, HFD.out, HL1.out, HL2.out, hc1, hc2, HXI.out.keepR (by omega) fun b o e hb => hoff b (.inl (by subst e; rfl)), HYI.out.keepR (by omega) fun b o e hb => hoff b (.inr (by subst e; rfl)), hbV⟩⟩
          rw [results_cells3 rfl]
          go_simp
    · obtain rfl : vv = v + 1 := by omega
      have hkn' : k < n := by
        rcases (by omega : k < n ∨ k = n) with h | rfl
        · exact h
        · exact absurd (HN1.out k v hk3 hv1 (Nat.le_refl _) (.inr ⟨rfl, by omega⟩)) HFIN.out
      have HN2 : Hid (BdNo W v n (k + 1) 1) := fun k' v' h3 h1 hv h => by
        rcases (by omega : k' < k ∨ k' = k) with h9 | h9
        · exact HN1.out k' v' h3 h1 hv (.inl h9)
        · exact HN1.out k' v' h3 h1 hv (.inr ⟨h9, by omega⟩)
      go_wp2_with fail
      exact ⟨⟨_, _, _, _, _, _, _, _, _, _, _, _, _, _, _, _, _, _, _, _, _, _, _, _, _, _, _, _, _, _, _, _, _, _, _, _, _, _, _, _, _, _, _, _, ⟨k + 1, Ds, by omega, by omega, by go_num, rfl, HL.out, HN2.out⟩, rfl⟩, by simp [intOf]; omega⟩
end Go.Proofs.Ytejijddfepgnkaa
