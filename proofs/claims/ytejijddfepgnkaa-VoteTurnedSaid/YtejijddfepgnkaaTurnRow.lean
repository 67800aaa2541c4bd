/-
  slices.Reverse of a row that lies in a block of its own, empty or not; what turned rows leave alone.
-/
import Derived.Test.YtejijddfepgnkaaReverse
import Derived.Test.YtejijddfepgnkaaRowTurn
namespace Go.Proofs.Ytejijddfepgnkaa
open Go.RowKit Go.Shelf Go.Sort
set_option linter.unusedVariables false
set_option linter.unusedSimpArgs false

theorem reverse_empty (A : Option Addr) (cap : Nat) (w : World) :
    Calls Try.prog 34 #[.slice A 0 cap] w fun e w' => e = .returned (.tuple #[]) ∧ w' = w := Any.slices_Reverse_int_empty laysReverse A cap w
theorem intsA_cap {w : World} {B B' : Nat} {A : Option Addr} {l : List Int} (h : IntsA w B A l) (hB : ∀ b o, A = some ⟨b, o, none⟩ → b < B') : IntsA w B' A l := h.keepA fun b o e => ⟨hB b o e, rfl⟩
/-- A row of the rows that are being turned, as the walk reads it. -/
theorem Turned.at_ {w0 wr : World} {base lim q c i : Nat} {e : TypeId} {X : Option Addr} {vs : List Value} {L : List (List Int)} {blk : Nat → Nat} (hown : w0.ownsRow base e 1 (.slice X q c) q vs) (hB : RowBlks w0 base (Value.slice X q c).ownBlock vs L blk lim) (hq : L.length = q)
    (h : Turned w0 wr L blk i) (hi : i < q) :
    ∃ g o A' n' c', X = some ⟨g, o, none⟩ ∧ g < w0.heap.size ∧ wr.cell? ⟨g, o + i, none⟩ = some (.slice A' n' c') ∧ Hid ((L.getD i []).length = n') ∧ n' ≤ c' ∧
      (0 < n' → A' = some ⟨blk i, 0, none⟩ ∧ blk i < wr.heap.size ∧ (∃ cur t, wr.heap[blk i]? = some (.cells cur t (0, 0))) ∧ IntsA wr wr.heap.size A' (L.getD i [])) := by
  obtain ⟨hl, h2⟩ := hown
  rcases h2 with ⟨hv, h0⟩ | ⟨g, cap, cur, hv, hg, hh, hc, hmx, hs, ht⟩
  · omega
  · injection hv with ea eb ec
    subst ea
    obtain ⟨A', c', h1, hle, h3⟩ := hB.row i (by omega)
    have hgs := lt_of_block hh
    have hgw : wr.heap[g]? = some (.cells cur e (0, 0)) := by
      rw [h.same g hgs (fun j hj h0 e9 => ?_)]
      · exact hh
      · obtain ⟨A2, c2, _, _, h4⟩ := hB.row j (by omega)
        exact (h4 h0).2.2.2.1 (by rw [← e9]; rfl)
    refine ⟨g, 0, A', _, c', rfl, hgs, ?_, rfl, hle, fun h0 => ?_⟩
    · rw [blk_cell hgw, Nat.zero_add, ← h1, ← ht]
      simp [List.getElem?_take, hi]
    · obtain ⟨hA, hb1, hb2, hb3, ⟨cu, t, hb4⟩, hI⟩ := h3 h0
      have hbs : blk i < w0.heap.size := Nat.lt_of_lt_of_le hb2 hB.lim_le
      have hsame : wr.heap[blk i]? = w0.heap[blk i]? := h.same _ hbs fun j hj h9 e9 => hB.apart j i hj (by omega) h9 h0 e9.symm
      have hz := h.size
      refine ⟨hA, by omega, ⟨cu, t, hsame.trans hb4⟩, hI.keepA fun b o e9 => ?_⟩
      rw [hA] at e9
      injection e9 with e9; injection e9 with e9
      subst e9
      exact ⟨by omega, hsame⟩
/-- The rows turned, below a bound. -/
theorem Turned.rowsB {w0 wr : World} {base lim q c B : Nat} {e : TypeId} {X : Option Addr} {vs : List Value} {L : List (List Int)} {blk : Nat → Nat} (hown : w0.ownsRow base e 1 (.slice X q c) q vs) (hB : RowBlks w0 base (Value.slice X q c).ownBlock vs L blk lim) (hq : L.length = q)
    (h : Turned w0 wr L blk q) (hlB : lim ≤ B) (hgB : ∀ g, (Value.slice X q c).ownBlock = some g → g < B) : RowsA wr B X (L.map List.reverse) := by
  intro i hi
  rw [List.length_map, hq] at hi
  have e1 : (L.map List.reverse).getD i [] = (L.getD i []).reverse := by
    simp only [List.getD_eq_getElem?_getD, List.getElem?_map]
    cases L[i]? <;> rfl
  obtain ⟨hl, h2⟩ := hown
  rcases h2 with ⟨hv, h0⟩ | ⟨g, cap, cur, hv, hg, hh, hc, hmx, hs, ht⟩
  · omega
  · injection hv with ea eb ec
    subst ea
    obtain ⟨A', c', h1, hle, h3⟩ := hB.row i (by omega)
    have hgs := lt_of_block hh
    have hgw : wr.heap[g]? = some (.cells cur e (0, 0)) := by
      rw [h.same g hgs (fun j hj h0 e9 => ?_)]
      · exact hh
      · obtain ⟨A2, c2, _, _, h4⟩ := hB.row j (by omega)
        exact (h4 h0).2.2.2.1 (by rw [← e9]; rfl)
    rw [e1, List.length_reverse]
    refine ⟨g, 0, A', c', rfl, hgB g rfl, ?_, hle, ?_⟩
    · rw [blk_cell hgw, Nat.zero_add, ← h1, ← ht]
      simp [List.getElem?_take, hi]
    · by_cases h0 : 0 < (L.getD i []).length
      · rw [(h3 h0).1]
        refine intsA_cap (h.row i hi h0) fun b o e9 => ?_
        injection e9 with e9; injection e9 with e9
        have := (h3 h0).2.2.1
        omega
      · intro k hk
        rw [List.length_reverse] at hk
        omega
theorem Turned.below {w0 wr : World} {base lim i : Nat} {g : Option Nat} {vs : List Value} {L : List (List Int)} {blk : Nat → Nat} (h : Turned w0 wr L blk i) (hB : RowBlks w0 base g vs L blk lim) (hbs : base ≤ w0.heap.size) (hi : i ≤ L.length) : Below base w0 wr :=
  ⟨h.os, h.tape, h.output, by rw [h.size]; exact Nat.le_refl _, fun k hk => h.same k (by omega) fun j hj h0 e => by
    obtain ⟨A', c', _, _, h3⟩ := hB.row j (by omega)
    have := (h3 h0).2.1
    omega⟩
theorem own_keep {w w' : World} {base n : Nat} {e : TypeId} {v : Value} {xs : List Value} (h : w.ownsRow base e 1 v n xs) (hb : Below w.heap.size w w') : w'.ownsRow base e 1 v n xs :=
  h.kept (row := none) (w' := w') ⟨hb.os, hb.tape, hb.output, hb.size, fun k hk _ => hb.block k hk⟩ (by
    cases h : v.ownBlock
    · exact .inl rfl
    · exact .inr (by simp))
/-- slices.Reverse of a row behind the turned ones. -/
theorem turn_back {w0 wr : World} {base lim i B q2 c : Nat} {t : TypeId} {g : Option Nat} {vs : List Value} {L : List (List Int)} {blk : Nat → Nat} {A : Option Addr} {l : List Int} (h : Turned w0 wr L blk i) (hB : RowBlks w0 base g vs L blk lim) (hi : i ≤ L.length) (hlim : lim ≤ B) (hq2 : l.length = q2) (hs : q2 ≤ 9223372036854775807)
    (hI : IntsA w0 w0.heap.size A l) (hown : w0.ownsRow B t 1 (.slice A q2 c) q2 (l.map (Value.int .i64))) : ∀ cc, Calls Try.prog 34 #[.slice A q2 cc] wr fun e w' => e = .returned (.tuple #[]) ∧ IntsA w' w'.heap.size A l.reverse ∧ Below B wr w' := by
  intro cc
  rcases Nat.eq_zero_or_pos q2 with rfl | hpos
  · obtain rfl : l = [] := List.length_eq_zero_iff.1 hq2
    exact (reverse_empty A cc wr).mono fun e w' ⟨h1, h2⟩ => by
      subst h2
      exact ⟨h1, IntsA.nil_, ⟨rfl, rfl, rfl, Nat.le_refl _, fun _ _ => rfl⟩⟩
  · obtain ⟨hl, h2⟩ := hown
    rcases h2 with ⟨hv, h0⟩ | ⟨b, cap, cur, hv, hb, hh, hc, hmx, hs2, ht⟩
    · omega
    · injection hv with ea eb ec
      subst ea
      have hbs := lt_of_block hh
      have hsame : wr.heap[b]? = w0.heap[b]? := h.same b hbs fun j hj h0 e => by
        obtain ⟨A', c', _, _, h3⟩ := hB.row j (by omega)
        have := (h3 h0).2.2.1
        omega
      have hz := h.size
      have hI2 : IntsA wr wr.heap.size (some ⟨b, 0, none⟩) l := hI.keepA fun b' o' e => by
        injection e with e; injection e with e
        subst e
        exact ⟨by omega, hsame⟩
      refine (reverse_any b 0 q2 cc l wr hq2 hs hI2 (fun o => blk_free (hsame.trans hh) o) (by omega)).mono ?_
      rintro e w' ⟨h1, h2, h3, h4⟩
      exact ⟨h1, h2, ⟨h3.os, h3.tape, h3.output, h3.size, fun k hk => h3.block k (by omega) (by omega)⟩⟩
end Go.Proofs.Ytejijddfepgnkaa
