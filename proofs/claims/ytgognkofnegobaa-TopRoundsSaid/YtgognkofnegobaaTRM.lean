/-
  Two rows that grow side by side: rows of ints, and ints.
-/
import Derived.Test.YtgognkofnegobaaTurnsM
import Derived.Test.YtgognkofnegobaaSortP
import Derived.Test.YtgognkofnegobaaRoundsP
import Derived.Test.YtgognkofnegobaaTVal
import Derived.Test.YtgognkofnegobaaTRef
namespace Go.Proofs.Ytgognkofnegobaa
open Go.RowKit
set_option linter.unusedVariables false
set_option linter.unusedSimpArgs false

structure RwM (w : World) (B : Nat) (X : Option Addr) (j c : Nat) (PX : Option Addr) (q cp : Nat) (vs ps : List Value) (S : List (List Int)) : Prop where
  own : w.ownsRow B 24 1 (.slice X j c) j vs
  pown : w.ownsRow B 3 1 (.slice PX q cp) q ps
  ne : ∀ k, (Value.slice X j c).ownBlock = some k → (Value.slice PX q cp).ownBlock ≠ some k
  rv : RowVals w (Value.slice X j c).ownBlock vs S
  rp : RowVals w (Value.slice PX q cp).ownBlock vs S
  jl : S.length = j
  jc : j ≤ c
  qc : q ≤ cp
section
variable {w w' w1 : World} {B : Nat} {X : Option Addr} {j c : Nat} {PX : Option Addr} {q cp : Nat} {vs ps : List Value} {S : List (List Int)}
theorem RwM.nil_ (w : World) (B : Nat) : RwM w B none 0 0 none 0 0 [] [] [] :=
  ⟨World.ownsRow_nil _ _ _ _, World.ownsRow_nil _ _ _ _, fun k hk => by simp [Value.ownBlock] at hk, RowVals.nil_, RowVals.nil_, rfl, Nat.le_refl _, Nat.le_refl _⟩
theorem RwM.next (h : RwM w B X j c PX q cp vs ps S) (hb : Below w.heap.size w w') : RwM w' B X j c PX q cp vs ps S := by
  have k : ∀ g, g < w.heap.size → w'.heap[g]? = w.heap[g]? := hb.block
  exact ⟨own_keepS h.own (fun g hg => k g (own_lt h.own g hg).2), own_keepS h.pown (fun g hg => k g (own_lt h.pown g hg).2), h.ne, h.rv.next hb, h.rp.next hb, h.jl, h.jc, h.qc⟩
theorem RwM.pushS (h : RwM w B X j c PX q cp vs ps S) {A : Option Addr} {m ca g cg : Nat} {l : List Int} (hl : l.length = m) (hca : m ≤ ca) (hA : IntsA w w.heap.size A l)
    (hnx : ∀ k, (Value.slice A m ca).ownBlock = some k → (Value.slice X j c).ownBlock ≠ some k) (hnp : ∀ k, (Value.slice A m ca).ownBlock = some k → (Value.slice PX q cp).ownBlock ≠ some k)
    (hown : w1.ownsRow B 24 1 (.slice (some ⟨g, 0, none⟩) (j + 1) cg) (j + 1) (vs ++ [.slice A m ca])) (hcg : j + 1 ≤ cg) (hg1 : (Value.slice X j c).ownBlock = some g ∨ w.heap.size ≤ g) (hgr : w.grownBy w1 (Value.slice X j c).ownBlock) :
    RwM w1 B (some ⟨g, 0, none⟩) (j + 1) cg PX q cp (vs ++ [.slice A m ca]) ps (S ++ [l]) := by
  have hrv := h.rv.snoc hgr hg1 hl hca hA (fun _ => off_own (n := m) (c := ca) fun k hk e => hnx k hk e.symm)
  refine ⟨hown, own_keepS h.pown (fun k hk => ?_), fun k hk => ?_, hrv, hrv.both fun i hi A' c' h1 h0 => ?_, by simp [h.jl], hcg, h.qc⟩
  · have h1 := own_lt h.pown k hk
    exact hgr.block k h1.2 (fun e => h.ne k e.symm hk)
  · have e : g = k := by simpa [Value.ownBlock] using hk
    subst e
    rcases hg1 with h1 | h1
    · exact h.ne _ h1
    · intro e; have := (own_lt h.pown _ e).2; omega
  · have hvl := h.rv.1
    rw [List.length_append, List.length_cons, List.length_nil] at hi
    by_cases hlt : i < S.length
    · rw [List.getElem?_append_left (by omega)] at h1
      have e1 : (S ++ [l]).getD i [] = S.getD i [] := by simp [List.getD_eq_getElem?_getD, List.getElem?_append_left hlt]
      rw [e1] at h0 h1
      exact h.rp.offs i hlt A' c' h1 h0
    · obtain rfl : i = S.length := by omega
      rw [List.getElem?_append_right (by omega), hvl, Nat.sub_self] at h1
      injection h1 with h1
      injection h1 with e2 e3 e4
      subst e2
      exact off_own (n := m) (c := ca) fun k hk e => hnp k hk e.symm
theorem RwM.pushP (h : RwM w B X j c PX q cp vs ps S) {g cg : Nat} {x : Value}
    (hown : w1.ownsRow B 3 1 (.slice (some ⟨g, 0, none⟩) (q + 1) cg) (q + 1) (ps ++ [x])) (hcg : q + 1 ≤ cg) (hg1 : (Value.slice PX q cp).ownBlock = some g ∨ w.heap.size ≤ g) (hgr : w.grownBy w1 (Value.slice PX q cp).ownBlock) :
    RwM w1 B X j c (some ⟨g, 0, none⟩) (q + 1) cg vs (ps ++ [x]) S := by
  have hrp := h.rp.grown hgr hg1
  refine ⟨own_keepS h.own (fun k hk => ?_), hown, fun k hk e2 => ?_, hrp.both h.rv.offs, hrp, h.jl, h.jc, hcg⟩
  · have h1 := own_lt h.own k hk
    exact hgr.block k h1.2 (fun e => h.ne k hk e.symm)
  · have e : g = k := by simpa [Value.ownBlock] using e2
    subst e
    rcases hg1 with h1 | h1
    · exact h.ne _ hk h1
    · have := (own_lt h.own _ hk).2; omega
end

theorem toN_up (l : List Nat) : toN (up l) = l := by
  rw [toN, up, List.map_map]
  exact (List.map_congr_left (fun x _ => Int.toNat_natCast x)).trans (List.map_id' l)
theorem toNN_upp (W : List (List Nat)) : toNN (upp W) = W := by
  rw [toNN, upp, List.map_map]
  exact (List.map_congr_left (fun x _ => toN_up x)).trans (List.map_id' W)
/-- The sorted rows so far. -/
def SrtS (L : List (List Int)) (n k : Nat) (W : List (List Nat)) : Prop := W.length = k ∧ ∀ i, i < k → SrtRow (fun g => (L.getD i []).getD g 0) n (W.getD i [])
theorem SrtS.nil_ (L : List (List Int)) (n : Nat) : SrtS L n 0 [] := ⟨rfl, fun i hi => by omega⟩
theorem SrtS.snoc {L : List (List Int)} {n k : Nat} {W : List (List Nat)} (h : SrtS L n k W) {l : List Nat} (hl : SrtRow (fun g => (L.getD k []).getD g 0) n l) : SrtS L n (k + 1) (W ++ [l]) := by
  refine ⟨by simp [h.1], fun i hi => ?_⟩
  by_cases e : i = k
  · subst e
    have : (W ++ [l]).getD i [] = l := by rw [List.getD_eq_getElem?_getD, List.getElem?_append_right (by rw [h.1]; exact Nat.le_refl _), h.1, Nat.sub_self]; rfl
    rw [this]; exact hl
  · have : (W ++ [l]).getD i [] = W.getD i [] := by simp only [List.getD_eq_getElem?_getD]; rw [List.getElem?_append_left (by rw [h.1]; omega)]
    rw [this]; exact h.2 i (by omega)
theorem SrtS.valid {L : List (List Int)} {n : Nat} {W : List (List Nat)} (h : SrtS L n n W) (hn1 : 1 ≤ n) (hn4 : n ≤ 4) : validB (upp W) = true := by
  rw [validB_iff, upp_length, h.1]
  refine ⟨by omega, fun l hl => ?_⟩
  simp only [upp, List.mem_map] at hl
  obtain ⟨r, hr, rfl⟩ := hl
  obtain ⟨i, hi, e⟩ := List.getElem_of_mem hr
  have h1 := (h.2 i (by rw [← h.1]; exact hi)).ord
  rw [List.getD_eq_getElem?_getD, List.getElem?_eq_getElem hi] at h1
  rw [← e]
  exact ord_B h1
theorem vB_facts {L : List (List Int)} {n m : Nat} (hv : vB01 L = true) (hn : L.length = n) (hm : (L.getD 0 []).length = m) : 1 ≤ n ∧ n ≤ 4 ∧ (n = m → SqV L n) := by
  rw [vB01, Bool.and_eq_true, List.all_eq_true] at hv
  obtain ⟨h1, h2⟩ := hv
  have h1 := of_decide_eq_true h1
  rw [hn] at h1
  refine ⟨h1.1, h1.2, fun e => ?_⟩
  subst e
  have h3 : ∀ i, i < n → rowB n (L.getD i []) = true := fun i hi => by rw [← hm]; exact h2 _ (getD_mem (by rw [hn]; exact hi))
  refine ⟨hn, h1.1, h1.2, fun i hi => ?_, fun i hi g hg => ?_⟩
  · have h4 := h3 i hi
    rw [rowB, Bool.and_eq_true] at h4
    exact (of_decide_eq_true h4.1).1
  · have h4 := h3 i hi
    rw [rowB, Bool.and_eq_true] at h4
    exact worths_at h4.2 (by rw [(of_decide_eq_true h4.1).1]; exact hg)
theorem up_range_succV (k : Nat) : (up (List.range k)).map (Value.int .i64) ++ [Value.int .i64 (k : Int)] = (up (List.range (k + 1))).map (Value.int .i64) := by
  simp [up, List.range_succ]
theorem ints_rowO {w : World} {g n c : Nat} {t : TypeId} {s : Nat → Nat} (h : RowO w g n c t (fun k => .int .i64 (s k : Nat))) : IntsA w w.heap.size (some ⟨g, 0, none⟩) (up ((List.range n).map s)) := by
  intro i hi
  rw [up_length, List.length_map, List.length_range] at hi
  refine ⟨g, 0, rfl, h.lt, ?_⟩
  rw [Nat.zero_add, h.cell hi, up_getD]
  have : ((List.range n).map s).getD i 0 = s i := by simp [List.getD_eq_getElem?_getD, hi]
  rw [this]
end Go.Proofs.Ytgognkofnegobaa
