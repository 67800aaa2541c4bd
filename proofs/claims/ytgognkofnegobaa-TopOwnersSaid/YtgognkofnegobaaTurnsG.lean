/-
  turns: the memory of stable's recursion.
-/
import Derived.Test.YtgognkofnegobaaTurnsF
import Derived.Test.YtgognkofnegobaaEqual
namespace Go.Proofs.Ytgognkofnegobaa
open Go.RowKit
set_option linter.unusedVariables false
set_option linter.unusedSimpArgs false

/-- All ways to give d more hands a shift or none, in the order of the search. -/
def enumM (n : Nat) : Nat → List Int → List (List Int)
  | 0, p => [p]
  | d + 1, p => (List.range (n + 1)).flatMap fun (x : Nat) => enumM n d (p ++ [(x : Int) - 1])
def enumTo (n d : Nat) (p : List Int) (k : Nat) : List (List Int) := (List.range k).flatMap fun (x : Nat) => enumM n d (p ++ [(x : Int) - 1])
theorem enumTo_succ (n d : Nat) (p : List Int) (k : Nat) : enumTo n d p (k + 1) = enumTo n d p k ++ enumM n d (p ++ [(k : Int) - 1]) := by
  rw [enumTo, enumTo, List.range_succ, List.flatMap_append]; simp
theorem enumTo_full (n d : Nat) (p : List Int) : enumTo n d p (n + 1) = enumM n (d + 1) p := rfl
theorem flatM_le {f : Nat → List (List Int)} {b : Nat} : ∀ xs : List Nat, (∀ x ∈ xs, (f x).length ≤ b) → (xs.flatMap f).length ≤ xs.length * b
  | [], _ => by simp
  | x :: xs, h => by
    have h1 := h x (by simp)
    have h2 := flatM_le xs fun y hy => h y (by simp [hy])
    rw [List.flatMap_cons, List.length_append, List.length_cons, Nat.succ_mul]
    omega
theorem enumM_len {n : Nat} (hn : n ≤ 4) : ∀ d p, (enumM n d p).length ≤ 5 ^ d
  | 0, p => by simp [enumM]
  | d + 1, p => by
    have := flatM_le (f := fun (x : Nat) => enumM n d (p ++ [(x : Int) - 1])) (b := 5 ^ d) (List.range (n + 1)) fun x _ => enumM_len hn d _
    rw [List.length_range] at this
    rw [enumM, Nat.pow_succ, Nat.mul_comm]
    exact Nat.le_trans this (Nat.mul_le_mul_right _ (by omega))
/-- A beginning of a matching. -/
structure MPart (p : List Int) (h n : Nat) : Prop where
  len : p.length = h
  at_ : ∀ i, i < h → p.getD i 0 = -1 ∨ ∃ s : Nat, s < n ∧ p.getD i 0 = (s : Int)
theorem MPart.snoc {p : List Int} {h n x : Nat} (hp : MPart p h n) (hx : x ≤ n) : MPart (p ++ [(x : Int) - 1]) (h + 1) n := by
  have hl := hp.len
  refine ⟨by simp [hl], fun i hi => ?_⟩
  by_cases e : i < h
  · have : (p ++ [(x : Int) - 1]).getD i 0 = p.getD i 0 := by simp [List.getD_eq_getElem?_getD, List.getElem?_append_left (show i < p.length by omega)]
    rw [this]; exact hp.at_ i e
  · obtain rfl : i = h := by omega
    have : (p ++ [(x : Int) - 1]).getD i 0 = (x : Int) - 1 := by
      rw [List.getD_eq_getElem?_getD, List.getElem?_append_right (by omega), hl, Nat.sub_self]; rfl
    rw [this]
    by_cases h0 : x = 0
    · exact .inl (by omega)
    · exact .inr ⟨x - 1, by omega, by omega⟩

/-- The memory: the plan (B), what was found (B + 1), the matching's row (B + 2), the matching (B + 3), the searching function (B + 4), and the rows that were found. -/
structure StM (w : World) (B : Nat) (HA SA PA : Option Addr) (n hc sc pc : Nat) (H S : List (List Nat)) (q : List Int) (L : List (List Int)) (X : Option Addr) (j c : Nat) (vs : List Value) : Prop where
  pl : PlanA w B HA SA PA n H S
  pb : w.heap[B]? = some (.cells #[.slice HA n hc, .slice SA n sc, .slice PA n pc] 33 (0, 0))
  ob : w.heap[B + 1]? = some (.cells #[.slice X j c] 22 (0, 0))
  mr : w.rowIs (B + 2) 3 n (fun i => .int .i64 (q.getD i 0))
  mb : w.heap[B + 3]? = some (.cells #[.slice (some ⟨B + 2, 0, none⟩) n n] 24 (0, 0))
  tb : w.heap[B + 4]? = some (.cells #[.func (.func 64) #[] #[.pointer (some ⟨B + 3, 0, none⟩), .pointer (some ⟨B, 0, none⟩), .pointer (some ⟨B + 1, 0, none⟩), .pointer (some ⟨B + 4, 0, none⟩)]] 75 (0, 0))
  own : w.ownsRow (B + 5) 24 1 (.slice X j c) j vs
  rv : RowVals w (Value.slice X j c).ownBlock vs L
  low : ∀ i, i < L.length → ∀ A' n' c', vs[i]? = some (.slice A' n' c') → 0 < (L.getD i []).length → ∀ b o, A' = some ⟨b, o, none⟩ → B + 5 ≤ b
  jl : L.length = j
  jc : j ≤ c
  ql : q.length = n
theorem PlanA.below {w w' : World} {B : Nat} {HA SA PA : Option Addr} {n : Nat} {H S : List (List Nat)} (h : PlanA w B HA SA PA n H S) (hb : Below B w w') : PlanA w' B HA SA PA n H S :=
  ⟨h.h.below hb, h.s.below hb, h.p.below hb, h.hok, h.sok⟩
theorem PlanA.more {w : World} {B B' : Nat} {HA SA PA : Option Addr} {n : Nat} {H S : List (List Nat)} (h : PlanA w B HA SA PA n H S) (hb : B ≤ B') : PlanA w B' HA SA PA n H S :=
  ⟨h.h.more hb, h.s.more hb, h.p.more hb, h.hok, h.sok⟩
section
variable {w w' : World} {B : Nat} {HA SA PA : Option Addr} {n hc sc pc : Nat} {H S : List (List Nat)} {q : List Int} {L : List (List Int)} {X : Option Addr} {j c : Nat} {vs : List Value}
theorem StM.next (h : StM w B HA SA PA n hc sc pc H S q L X j c vs) (hb : Below w.heap.size w w') : StM w' B HA SA PA n hc sc pc H S q L X j c vs := by
  have k : ∀ g, g < w.heap.size → w'.heap[g]? = w.heap[g]? := hb.block
  have hl := lt_of_block h.tb
  exact ⟨h.pl.below (hb.mono (by omega)), (k _ (by omega)).trans h.pb, (k _ (by omega)).trans h.ob, h.mr.of_block (k _ (by omega)), (k _ (by omega)).trans h.mb, (k _ (by omega)).trans h.tb,
    own_keepS h.own (fun g hg => k g (own_lt h.own g hg).2), h.rv.next hb, h.low, h.jl, h.jc, h.ql⟩
theorem StM.set (h : StM w B HA SA PA n hc sc pc H S q L X j c vs) (i : Nat) (hi : i < n) (y : Int) : StM (w.setCell ⟨B + 2, i, none⟩ (.int .i64 y)) B HA SA PA n hc sc pc H S (q.set i y) L X j c vs := by
  have k : ∀ g, g ≠ B + 2 → (w.setCell ⟨B + 2, i, none⟩ (.int .i64 y)).heap[g]? = w.heap[g]? := fun g hg => blk_far _ hg
  have hb : Below (B + 2) w (w.setCell ⟨B + 2, i, none⟩ (.int .i64 y)) := (Below.refl _ _).setCell (by show B + 2 ≤ B + 2; omega) _
  refine ⟨h.pl.below (hb.mono (by omega)), (k _ (by omega)).trans h.pb, (k _ (by omega)).trans h.ob, ?_, (k _ (by omega)).trans h.mb, (k _ (by omega)).trans h.tb,
    own_keepS h.own (fun g hg => k g (by have := (own_lt h.own g hg).1; omega)), ⟨h.rv.1, fun a ha => ?_⟩, h.low, h.jl, h.jc, by rw [List.length_set]; exact h.ql⟩
  · refine (h.mr.set i (.int .i64 y)).congr fun a ha => ?_
    have hq := h.ql
    by_cases e : a = i
    · subst e
      rw [if_pos rfl]
      simp [List.getD_eq_getElem?_getD, List.getElem?_set, show a < q.length by omega]
    · rw [if_neg e]
      simp [List.getD_eq_getElem?_getD, List.getElem?_set, show ¬ i = a by omega]
  · obtain ⟨A', c', h1, h2, h3, h4⟩ := h.rv.2 a ha
    refine ⟨A', c', h1, h2, fun x hx => ?_, h4⟩
    obtain ⟨b, o, e, h5, h6⟩ := h3 x hx
    have := h.low a ha A' _ c' h1 (by omega) b o e
    exact ⟨b, o, e, by simpa [World.setCell] using h5, (World.cell?_of_block (w := w) (a := ⟨b, o + x, none⟩) (k b (by omega))).trans h6⟩
end
end Go.Proofs.Ytgognkofnegobaa
