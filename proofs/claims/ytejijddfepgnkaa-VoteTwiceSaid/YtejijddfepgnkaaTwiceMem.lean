/-
  append(Few(l), Few(l)...): its rows as one's own memory.
-/
import Derived.Test.YtejijddfepgnkaaFewBlks
import Derived.Test.YtejijddfepgnkaaReverseRows
import Derived.Test.YtejijddfepgnkaaTwicePlain
namespace Go.Proofs.Ytejijddfepgnkaa
open Go.RowKit
set_option linter.unusedVariables false
set_option linter.unusedSimpArgs false

theorem RowBlks.vals {w : World} {base lim : Nat} {g g2 : Option Nat} {vs : List Value} {L : List (List Int)} {blk : Nat → Nat} (h : RowBlks w base g vs L blk lim) (h2 : ∀ q, g2 = some q → q < base ∨ lim ≤ q) : RowVals w g2 vs L := by
  refine ⟨h.len, fun i hi => ?_⟩
  obtain ⟨A', c', h1, h3, h4⟩ := h.row i hi
  refine ⟨A', c', h1, h3, fun j hj => ?_, fun hp b o e => ?_⟩
  · obtain ⟨_, _, _, _, _, h5⟩ := h4 (by omega)
    exact h5 j hj
  · obtain ⟨e1, hb, hl, _, _, _⟩ := h4 hp
    rw [e1] at e
    injection e with e
    injection e with e2 _
    intro hg
    have := h2 b hg.symm
    omega
theorem twice_rows {B1 v c1 c2 g lim : Nat} {t : TypeId} {A1 A2 : Option Addr} {w1 w2 w3 : World} {vs1 vs2 : List Value} {L : List (List Int)} {blk1 blk2 : Nat → Nat} {lim1 : Nat}
    (ho1 : w1.ownsRow B1 t 1 (.slice A1 v c1) v vs1) (hR1 : RowBlks w1 B1 (Value.slice A1 v c1).ownBlock vs1 L blk1 lim1) (hb : Below w1.heap.size w1 w2)
    (hR2 : RowBlks w2 w1.heap.size (Value.slice A2 v c2).ownBlock vs2 L blk2 lim) (hg : (Value.slice A1 v c1).ownBlock = some g ∨ w2.heap.size ≤ g) (hgr : w2.grownBy w3 (Value.slice A1 v c1).ownBlock) :
    RowVals w3 (some g) (vs1 ++ vs2) (L ++ L) := by
  have k1 : RowVals w1 (Value.slice A1 v c1).ownBlock vs1 L := by
    refine ⟨hR1.len, fun i hi => ?_⟩
    obtain ⟨A', c', h1, h3, h4⟩ := hR1.row i hi
    refine ⟨A', c', h1, h3, fun j hj => ?_, fun hp b o e => ?_⟩
    · obtain ⟨_, _, _, _, _, h5⟩ := h4 (by omega)
      exact h5 j hj
    · obtain ⟨e1, _, _, hne, _, _⟩ := h4 hp
      rw [e1] at e
      injection e with e
      injection e with e2 _
      rw [← e2]; exact hne
  have k2 : RowVals w2 (Value.slice A1 v c1).ownBlock vs2 L := hR2.vals fun q hq => .inl (own_lt ho1 q hq).2
  exact ((k1.next hb).also k2).grown hgr hg
/-- The cells of one's own row. -/
theorem own_cells {w : World} {base n c g : Nat} {e : TypeId} {vs : List Value} (h : w.ownsRow base e 1 (.slice (some ⟨g, 0, none⟩) n c) n vs) : (∀ i, i < n → w.cell? ⟨g, 0 + i, none⟩ = vs[i]?) ∧ (∀ o, w.frozen? ⟨g, o, none⟩ = false) ∧ g < w.heap.size := by
  rcases h.2 with ⟨hv, _⟩ | ⟨g', cap, cur, hv, hb, hg, h1, h2, h3, h4⟩
  · cases hv
  · injection hv with hv1 _ _
    injection hv1 with hv1
    injection hv1 with hv1 _ _
    subst hv1
    refine ⟨fun i hi => ?_, fun o => ?_, lt_of_block hg⟩
    · rw [Nat.zero_add, blk_cell hg i, ← h4, List.getElem?_take_of_lt (by omega), Array.getElem?_toList]
    · simp [World.frozen?, hg]
theorem own_below {w1 w2 : World} {base n : Nat} {e : TypeId} {v : Value} {xs : List Value} (h : w1.ownsRow base e 1 v n xs) (hb : Below w1.heap.size w1 w2) : w2.ownsRow base e 1 v n xs :=
  h.kept (row := none) (w' := w2) ⟨hb.os, hb.tape, hb.output, hb.size, fun k hk _ => hb.block k hk⟩ (by
    cases hq : v.ownBlock
    · exact .inl rfl
    · exact .inr (by simp))
theorem own_at {w : World} {base n c : Nat} {A : Option Addr} {e : TypeId} {vs : List Value} (h : w.ownsRow base e 1 (.slice A n c) n vs) (hn : 0 < n) : ∀ i u, vs[i]? = some u → ∃ b o, A = some ⟨b, o, none⟩ ∧ w.cell? ⟨b, o + i, none⟩ = some u := fun i u hu => by
  obtain ⟨g, c', e1, _, _, _, _⟩ := own_form h hn
  injection e1 with e1 _ _
  subst e1
  have hl := h.1
  have hi := (List.getElem?_eq_some_iff.1 hu).1
  exact ⟨g, 0, rfl, by rw [(own_cells h).1 i (by omega), hu]⟩
theorem RowBlks.one {w : World} {base lim : Nat} {g : Option Nat} {vs : List Value} {L : List (List Int)} {blk : Nat → Nat} (h : RowBlks w base g vs L blk lim) : ∀ u ∈ vs, u.oneCell' = true := fun u hu => by
  obtain ⟨i, hi, rfl⟩ := List.getElem_of_mem hu
  obtain ⟨A', c', h1, _, _⟩ := h.row i (by rw [← h.len]; exact hi)
  rw [List.getElem?_eq_getElem hi] at h1
  injection h1 with h1
  rw [h1]; rfl
theorem only_below {w w' : World} {B g : Nat} (h : Only (fun k => k = g) w w') (hg : B ≤ g) (hB : B ≤ w.heap.size) : Below B w w' :=
  ⟨h.os, h.tape, h.output, h.size, fun k hk => h.block k (by omega) (by omega)⟩
theorem axis_form (r : Option (List Nat)) (n : Nat) (hn5 : n ≤ 5) (hr : ∀ o, r = some o → o.length = n) : ∃ (ao : List Nat) (am : Nat) (ar : Int), ao.length = am ∧ am ≤ 5 ∧ ∀ w e w', AxisPost r n w e w' →
    ∃ X cx, e = .returned (.tuple #[.slice X am cx, .int .i64 ar]) ∧ am ≤ cx ∧ IntsA w' w'.heap.size X (up ao) ∧ Below w.heap.size w w' := by
  cases r with
  | none => exact ⟨[], 0, 4, rfl, by omega, fun w e w' h => ⟨none, 0, h.1, by omega, fun i hi => absurd hi (by simp), h.2⟩⟩
  | some o =>
    refine ⟨o, n, 0, hr o rfl, hn5, fun w e w' h => ?_⟩
    obtain ⟨⟨X, cx, h1, h2, h3, h4⟩, h5⟩ := h
    exact ⟨X, cx, h1, h2, h4, h5⟩
theorem twice_up (W : List (List Nat)) : (upp W ++ upp W).reverse = upp (twice W) := by
  simp [upp, twice]
end Go.Proofs.Ytejijddfepgnkaa
