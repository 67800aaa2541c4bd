/-
  Owners, plain: the lists of shifts that like best the hand of their own number, and why trading is best.
-/
import Derived.Test.YtgognkofnegobaaTurnsP
namespace Go.Proofs.Ytgognkofnegobaa
open Go.RowKit
set_option linter.unusedVariables false
set_option linter.unusedSimpArgs false

/-- A list so far: different numbers below n, the first one k. -/
structure LSt (l : List Nat) (n k : Nat) : Prop where
  part : Part l n
  first : l.getD 0 0 = k
  pos : 1 ≤ l.length
theorem LSt.one {n k : Nat} (h : k < n) : LSt [k] n k := ⟨by have := (Part.nil_ n).snoc h (by simp); simpa using this, rfl, Nat.le_refl _⟩
theorem LSt.snoc {l : List Nat} {n k x : Nat} (h : LSt l n k) (hx : x < n) (hl : x ∉ l) : LSt (l ++ [x]) n k :=
  ⟨h.part.snoc hx hl, by
    have h1 := h.pos
    have h2 := h.first
    rw [List.getD_eq_getElem?_getD, List.getElem?_append_left (by omega), ← List.getD_eq_getElem?_getD]
    exact h2, by simp⟩
theorem LSt.le {l : List Nat} {n k : Nat} (h : LSt l n k) : l.length ≤ n := nodup_le n l h.part.nd h.part.lt
theorem LSt.room {l : List Nat} {n k x : Nat} (h : LSt l n k) (hx : x < n) (hl : x ∉ l) : l.length < n := by
  have := (h.snoc hx hl).le
  simp at this
  omega
theorem LSt.full {l : List Nat} {n k : Nat} (h : LSt l n k) (hall : ∀ x, x < n → x ∈ l) : Ord l n := by
  have h1 : l.length = n := by
    have h2 := h.le
    have h3 := nodup_le l.length ((List.range n).map (place l)) (by
      rw [List.nodup_iff_pairwise_ne, List.pairwise_map]
      refine List.Pairwise.imp_of_mem ?_ (List.nodup_range (n := n))
      intro a b ha hb hab e
      have h4 := (place_lt (hall a (List.mem_range.1 ha))).2
      have h5 := (place_lt (hall b (List.mem_range.1 hb))).2
      rw [e] at h4
      exact hab (h4.symm.trans h5)) (by
      intro x hx
      obtain ⟨a, ha, rfl⟩ := List.mem_map.1 hx
      exact (place_lt (hall a (List.mem_range.1 ha))).1)
    simp at h3
    omega
  exact h.part.ord h1
/-- The lists so far. -/
def OwnS (S : List (List Nat)) (n k : Nat) : Prop := S.length = k ∧ ∀ s, s < k → Ord (S.getD s []) n ∧ (S.getD s []).getD 0 0 = s
theorem OwnS.nil_ (n : Nat) : OwnS [] n 0 := ⟨rfl, fun s hs => by omega⟩
theorem OwnS.snoc {S : List (List Nat)} {n k : Nat} (h : OwnS S n k) {l : List Nat} (hl : Ord l n) (hf : l.getD 0 0 = k) : OwnS (S ++ [l]) n (k + 1) := by
  refine ⟨by simp [h.1], fun s hs => ?_⟩
  by_cases e : s = k
  · subst e
    have : (S ++ [l]).getD s [] = l := by rw [List.getD_eq_getElem?_getD, List.getElem?_append_right (by rw [h.1]; exact Nat.le_refl _), h.1, Nat.sub_self]; rfl
    rw [this]; exact ⟨hl, hf⟩
  · have : (S ++ [l]).getD s [] = S.getD s [] := by simp only [List.getD_eq_getElem?_getD]; rw [List.getElem?_append_left (by rw [h.1]; omega)]
    rw [this]; exact h.2 s (by omega)
theorem OwnS.sq {S : List (List Nat)} {n : Nat} (h : OwnS S n n) : SqOk S n := ⟨h.1, fun i hi => (h.2 i hi).1⟩

/-- What the law asks of a stable matching. -/
structure OwnQ (W : List (List Nat)) (n : Nat) (t : List Nat) (q : List Int) : Prop where
  len : q.length = n
  own : ∀ h, h < n → ∃ s : Nat, s < n ∧ q.getD h 0 = (s : Int) ∧ place (W.getD h []) s ≤ place (W.getD h []) h
  best : (∀ h, h < n → place (W.getD h []) (q.getD h 0).toNat ≤ place (W.getD h []) (t.getD h 0)) → q = up t
theorem owners_q {W S : List (List Nat)} {n : Nat} (hW : WOk W n) (hS : OwnS S n n) : ∀ q ∈ (enumM n n []).filter (stabB W S n), OwnQ W n (tradeN W) q := by
  intro q hq
  obtain ⟨h1, hst⟩ := List.mem_filter.1 hq
  have hm := enum_mok.1 h1
  have hown := stab_own ⟨hW.len, hW.rows⟩ hS.sq (fun s hs => (hS.2 s hs).2) hm hst
  refine ⟨hm.len, hown, fun hb => ?_⟩
  have htt := (hW.mkt (ord_range n)).ttc
  have htl : (tradeN W).length = n := by rw [tradeN, hW.len]; simp [listF]
  have hat : ∀ i, i < n → (tradeN W).getD i 0 = (traded W (List.range n)).1 i := fun i hi => by
    rw [tradeN, hW.len]; simp [listF, List.getD_eq_getElem?_getD, hi]
  have hqn : ∀ h, h < n → q.getD h 0 = (((q.getD h 0).toNat : Nat) : Int) ∧ (q.getD h 0).toNat < n := fun h hh => by
    obtain ⟨s, hs, e, _⟩ := hown h hh
    rw [e]; exact ⟨by simp, by simpa using hs⟩
  have key := htt.no_block hW.rows (S := fun k => k < n) (x := fun h => (q.getD h 0).toNat) (fun k hk => hk) (fun k hk => (hqn k hk).2) (fun j k hj hk e => by
    have e' : (q.getD j 0).toNat = (q.getD k 0).toNat := e
    exact stab_inj hst j k hj hk (q.getD j 0).toNat (hqn j hj).1 (by rw [e']; exact (hqn k hk).1)) (fun k hk => by have := hb k hk; rw [hat k hk] at this; exact this)
  apply List.ext_getElem
  · rw [hm.len, up_length, htl]
  · intro i h1 h2
    have hi : i < n := by rw [← hm.len]; exact h1
    have h3 := (hqn i hi).1
    have h4 : (q.getD i 0).toNat = (traded W (List.range n)).1 i := key i hi
    rw [h4, ← hat i hi] at h3
    have h5 : q.getD i 0 = q[i] := by rw [List.getD_eq_getElem?_getD, List.getElem?_eq_getElem h1]; rfl
    have h6 : (up (tradeN W))[i] = (up (tradeN W)).getD i 0 := by rw [List.getD_eq_getElem?_getD, List.getElem?_eq_getElem h2]; rfl
    rw [← h5, h6, up_getD]; exact h3
theorem trade_lt {W : List (List Nat)} {n : Nat} (hW : WOk W n) : (tradeN W).length = n ∧ ∀ i, i < n → (tradeN W).getD i 0 < n := by
  have htt := (hW.mkt (ord_range n)).ttc
  refine ⟨by rw [tradeN, hW.len]; simp [listF], fun i hi => ?_⟩
  have : (tradeN W).getD i 0 = (traded W (List.range n)).1 i := by rw [tradeN, hW.len]; simp [listF, List.getD_eq_getElem?_getD, hi]
  rw [this]; exact htt.lt i hi
end Go.Proofs.Ytgognkofnegobaa
