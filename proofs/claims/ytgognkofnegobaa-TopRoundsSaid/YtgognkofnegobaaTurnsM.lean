/-
  turns: the memory of a plan whose lists of shifts and places grow.
-/
import Derived.Test.YtgognkofnegobaaTurnsA
import Derived.Test.YtgognkofnegobaaAppS
namespace Go.Proofs.Ytgognkofnegobaa
open Go.RowKit
set_option linter.unusedVariables false
set_option linter.unusedSimpArgs false

/-- Block B holds three slices: no ints lie there. -/
theorem no_int3 {w : World} {B : Nat} {a b c : Value} {t : TypeId} (h : w.heap[B]? = some (.cells #[a, b, c] t (0, 0))) (ha : ∃ A n k, a = .slice A n k) (hb : ∃ A n k, b = .slice A n k) (hc : ∃ A n k, c = .slice A n k) (o : Nat) (x : Int) : w.cell? ⟨B, o, none⟩ ≠ some (.int .i64 x) := by
  obtain ⟨A1, n1, k1, rfl⟩ := ha
  obtain ⟨A2, n2, k2, rfl⟩ := hb
  obtain ⟨A3, n3, k3, rfl⟩ := hc
  rw [blk_cell h]
  match o with
  | 0 => simp
  | 1 => simp
  | 2 => simp
  | o + 3 => simp
section
variable {w w' w1 : World} {B C : Nat} {A : Option Addr} {l : List Int} {g g2 : Option Nat} {vs : List Value} {L : List (List Int)}
theorem ints_set3 (hI : IntsA w C A l) (hn : ∀ o x, w.cell? ⟨B, o, none⟩ ≠ some (.int .i64 x)) (k : Nat) (v : Value) : IntsA (w.setCell ⟨B, k, none⟩ v) C A l := fun i hi => by
  obtain ⟨b, o, e, hb, hc⟩ := hI i hi
  refine ⟨b, o, e, hb, ?_⟩
  have hne : b ≠ B := fun e2 => by subst e2; exact hn _ _ hc
  rw [World.cell?_of_block (w := w) (a := ⟨b, o + i, none⟩) (blk_far _ hne)]; exact hc
theorem rv_set3 (h : RowVals w g vs L) (hn : ∀ o x, w.cell? ⟨B, o, none⟩ ≠ some (.int .i64 x)) (k : Nat) (v : Value) : RowVals (w.setCell ⟨B, k, none⟩ v) g vs L :=
  ⟨h.1, fun i hi => by
    obtain ⟨A', c', h1, h2, h3, h4⟩ := h.2 i hi
    exact ⟨A', c', h1, h2, by have := ints_set3 h3 hn k v; simpa using this, h4⟩⟩
/-- The rows as they read by h, off the block by h2. -/
theorem RowVals.both (h : RowVals w g vs L) (h2 : ∀ i, i < L.length → ∀ A' c', vs[i]? = some (.slice A' (L.getD i []).length c') → 0 < (L.getD i []).length → Off A' g2) : RowVals w g2 vs L :=
  ⟨h.1, fun i hi => by
    obtain ⟨A', c', h1, h3, h4, h5⟩ := h.2 i hi
    exact ⟨A', c', h1, h3, h4, h2 i hi A' c' h1⟩⟩
theorem RowVals.offs (h : RowVals w g vs L) : ∀ i, i < L.length → ∀ A' c', vs[i]? = some (.slice A' (L.getD i []).length c') → 0 < (L.getD i []).length → Off A' g := fun i hi A' c' h1 h0 => by
  obtain ⟨A2, c2, h2, _, _, h5⟩ := h.2 i hi
  rw [h1] at h2
  injection h2 with h2
  injection h2 with e1 _ _
  subst e1
  exact h5 h0
end

structure PlM (w : World) (B n : Nat) (HA : Option Addr) (hc : Nat) (H : List (List Nat)) (X : Option Addr) (j c : Nat) (PX : Option Addr) (q cp : Nat) (vs ps : List Value) (S : List (List Int)) : Prop where
  pb : w.heap[B]? = some (.cells #[.slice HA n hc, .slice X j c, .slice PX q cp] 33 (0, 0))
  h : RowsA w B HA (upp H)
  own : w.ownsRow (B + 1) 24 1 (.slice X j c) j vs
  pown : w.ownsRow (B + 1) 3 1 (.slice PX q cp) q ps
  ne : ∀ k, (Value.slice X j c).ownBlock = some k → (Value.slice PX q cp).ownBlock ≠ some k
  rv : RowVals w (Value.slice X j c).ownBlock vs S
  rp : RowVals w (Value.slice PX q cp).ownBlock vs S
  jl : S.length = j
  jc : j ≤ c
  qc : q ≤ cp
section
variable {w w' w1 : World} {B n : Nat} {HA : Option Addr} {hc : Nat} {H : List (List Nat)} {X : Option Addr} {j c : Nat} {PX : Option Addr} {q cp : Nat} {vs ps : List Value} {S : List (List Int)}
theorem PlM.next (h : PlM w B n HA hc H X j c PX q cp vs ps S) (hb : Below w.heap.size w w') : PlM w' B n HA hc H X j c PX q cp vs ps S := by
  have k : ∀ g, g < w.heap.size → w'.heap[g]? = w.heap[g]? := hb.block
  have hl := lt_of_block h.pb
  exact ⟨(k _ hl).trans h.pb, h.h.below (hb.mono (by omega)), own_keepS h.own (fun g hg => k g (own_lt h.own g hg).2), own_keepS h.pown (fun g hg => k g (own_lt h.pown g hg).2), h.ne, h.rv.next hb, h.rp.next hb, h.jl, h.jc, h.qc⟩
theorem PlM.noint (h : PlM w B n HA hc H X j c PX q cp vs ps S) : ∀ o x, w.cell? ⟨B, o, none⟩ ≠ some (.int .i64 x) := no_int3 h.pb ⟨_, _, _, rfl⟩ ⟨_, _, _, rfl⟩ ⟨_, _, _, rfl⟩
theorem PlM.pushS (h : PlM w B n HA hc H X j c PX q cp vs ps S) {A : Option Addr} {m ca g cg : Nat} {l : List Int} (hl : l.length = m) (hca : m ≤ ca) (hA : IntsA w w.heap.size A l)
    (hnx : ∀ k, (Value.slice A m ca).ownBlock = some k → (Value.slice X j c).ownBlock ≠ some k) (hnp : ∀ k, (Value.slice A m ca).ownBlock = some k → (Value.slice PX q cp).ownBlock ≠ some k)
    (hown : w1.ownsRow (B + 1) 24 1 (.slice (some ⟨g, 0, none⟩) (j + 1) cg) (j + 1) (vs ++ [.slice A m ca])) (hcg : j + 1 ≤ cg) (hg1 : (Value.slice X j c).ownBlock = some g ∨ w.heap.size ≤ g) (hgr : w.grownBy w1 (Value.slice X j c).ownBlock) :
    PlM (w1.setCell ⟨B, 1, none⟩ (.slice (some ⟨g, 0, none⟩) (j + 1) cg)) B n HA hc H (some ⟨g, 0, none⟩) (j + 1) cg PX q cp (vs ++ [.slice A m ca]) ps (S ++ [l]) := by
  have hB := lt_of_block h.pb
  have low : (Value.slice X j c).ownBlock ≠ some B := fun e => by have := (own_lt h.own B e).1; omega
  have hpb1 : w1.heap[B]? = some (.cells #[.slice HA n hc, .slice X j c, .slice PX q cp] 33 (0, 0)) := (hgr.block _ hB (fun e => low e.symm)).trans h.pb
  have hno := no_int3 hpb1 ⟨_, _, _, rfl⟩ ⟨_, _, _, rfl⟩ ⟨_, _, _, rfl⟩
  have hb : Below B w (w1.setCell ⟨B, 1, none⟩ (.slice (some ⟨g, 0, none⟩) (j + 1) cg)) := ((Below.refl B w).grown hgr (by omega) (fun k hk => by have := (own_lt h.own k hk).1; omega)).setCell (by show B ≤ B; omega) _
  have hrv := h.rv.snoc hgr hg1 hl hca hA (fun _ => off_own (n := m) (c := ca) fun k hk e => hnx k hk e.symm)
  refine ⟨?_, h.h.below hb, own_keepS hown (fun k hk => blk_far _ (by have := (own_lt hown k hk).1; omega)), own_keepS h.pown (fun k hk => ?_), fun k hk => ?_, rv_set3 hrv hno 1 _, rv_set3 (hrv.both fun i hi A' c' h1 h0 => ?_) hno 1 _, by simp [h.jl], hcg, h.qc⟩
  · have := blk_set hpb1 1 (.slice (some ⟨g, 0, none⟩) (j + 1) cg)
    simpa using this
  · have h1 := own_lt h.pown k hk
    exact (blk_far _ (by omega)).trans (hgr.block k h1.2 (fun e => h.ne k e.symm hk))
  · have e : g = k := by simpa [Value.ownBlock] using hk
    subst e
    rcases hg1 with h1 | h1
    · exact h.ne _ h1
    · intro e; have := (own_lt h.pown _ e).2; omega
  · have hvl := h.rv.1
    rw [List.length_append, List.length_cons, List.length_nil] at hi
    by_cases hlt : i < S.length
    · rw [List.getElem?_append_left (by omega)] at h1
      have e1 : (S ++ [l]).getD i [] = S.getD i [] := by simp [List.getD_eq_getElem?_getD, List.getElem?_append_left hlt]
      rw [e1] at h0 h1
      exact h.rp.offs i hlt A' c' h1 h0
    · obtain rfl : i = S.length := by omega
      rw [List.getElem?_append_right (by omega), hvl, Nat.sub_self] at h1
      injection h1 with h1
      injection h1 with e2 e3 e4
      subst e2
      exact off_own (n := m) (c := ca) fun k hk e => hnp k hk e.symm
theorem PlM.pushP (h : PlM w B n HA hc H X j c PX q cp vs ps S) {g cg : Nat} {x : Value}
    (hown : w1.ownsRow (B + 1) 3 1 (.slice (some ⟨g, 0, none⟩) (q + 1) cg) (q + 1) (ps ++ [x])) (hcg : q + 1 ≤ cg) (hg1 : (Value.slice PX q cp).ownBlock = some g ∨ w.heap.size ≤ g) (hgr : w.grownBy w1 (Value.slice PX q cp).ownBlock) :
    PlM (w1.setCell ⟨B, 2, none⟩ (.slice (some ⟨g, 0, none⟩) (q + 1) cg)) B n HA hc H X j c (some ⟨g, 0, none⟩) (q + 1) cg vs (ps ++ [x]) S := by
  have hB := lt_of_block h.pb
  have low : (Value.slice PX q cp).ownBlock ≠ some B := fun e => by have := (own_lt h.pown B e).1; omega
  have hpb1 : w1.heap[B]? = some (.cells #[.slice HA n hc, .slice X j c, .slice PX q cp] 33 (0, 0)) := (hgr.block _ hB (fun e => low e.symm)).trans h.pb
  have hno := no_int3 hpb1 ⟨_, _, _, rfl⟩ ⟨_, _, _, rfl⟩ ⟨_, _, _, rfl⟩
  have hb : Below B w (w1.setCell ⟨B, 2, none⟩ (.slice (some ⟨g, 0, none⟩) (q + 1) cg)) := ((Below.refl B w).grown hgr (by omega) (fun k hk => by have := (own_lt h.pown k hk).1; omega)).setCell (by show B ≤ B; omega) _
  have hrp := h.rp.grown hgr hg1
  refine ⟨?_, h.h.below hb, own_keepS h.own (fun k hk => ?_), own_keepS hown (fun k hk => blk_far _ (by have := (own_lt hown k hk).1; omega)), fun k hk e2 => ?_, rv_set3 (hrp.both h.rv.offs) hno 2 _, rv_set3 hrp hno 2 _, h.jl, h.jc, hcg⟩
  · have := blk_set hpb1 2 (.slice (some ⟨g, 0, none⟩) (q + 1) cg)
    simpa using this
  · have h1 := own_lt h.own k hk
    exact (blk_far _ (by omega)).trans (hgr.block k h1.2 (fun e => h.ne k hk e.symm))
  · have e : g = k := by simpa [Value.ownBlock] using e2
    subst e
    rcases hg1 with h1 | h1
    · exact h.ne _ hk h1
    · have := (own_lt h.own _ hk).2; omega
end
end Go.Proofs.Ytgognkofnegobaa
