/-
  The trading rule, plain: what holds at its end.
-/
import Derived.Test.YtilnbiaabhdfgaaWishes
namespace Go.Proofs.Ytilnbiaabhdfgaa
open Go.RowKit
set_option linter.unusedVariables false
set_option linter.unusedSimpArgs false

section
variable {W : List (List Nat)} {has : List Nat} {n : Nat}
/-- What every round keeps holds at the end, where nobody is left. -/
theorem Mkt.ttc_ends (hM : Mkt W has n) (P : Nat → Nat → Nat → (Nat → Nat) → (Nat → Nat) → Prop)
    (hstep : ∀ L T r out rounds, LeftOk has n L T → L ≠ 0 → P L T r out rounds →
      P (sdiff L (goneF W has n L T)) (sdiff T (takenF has n (goneF W has n L T))) (r + 1) (fun i => if (goneF W has n L T).testBit i then best (W.getD i []) T else out i) (fun i => if (goneF W has n L T).testBit i then r else rounds i)) :
    ∀ fuel L T r out rounds, LeftOk has n L T → cardF n L ≤ fuel → P L T r out rounds → ∃ T' r', LeftOk has n 0 T' ∧ P 0 T' r' (ttc W has n fuel L T r out rounds).1 (ttc W has n fuel L T r out rounds).2 := by
  intro fuel
  induction fuel with
  | zero =>
    intro L T r out rounds hl hc hp
    have h0 : L = 0 := by
      apply Classical.byContradiction
      intro h0
      have := hM.card_step hl h0
      omega
    subst h0
    exact ⟨T, r, hl, hp⟩
  | succ fuel ih =>
    intro L T r out rounds hl hc hp
    by_cases h0 : L = 0
    · subst h0
      simp only [ttc, if_true]
      exact ⟨T, r, hl, hp⟩
    · simp only [ttc, h0, if_false]
      exact ih _ _ _ _ _ (hM.step hl) (by have := hM.card_step hl h0; omega) (hstep L T r out rounds hl h0 hp)
theorem Mkt.traded_ends (hM : Mkt W has n) (P : Nat → Nat → Nat → (Nat → Nat) → (Nat → Nat) → Prop)
    (hstart : P (2 ^ n - 1) (2 ^ n - 1) 0 (fun _ => 0) (fun _ => 0))
    (hstep : ∀ L T r out rounds, LeftOk has n L T → L ≠ 0 → P L T r out rounds →
      P (sdiff L (goneF W has n L T)) (sdiff T (takenF has n (goneF W has n L T))) (r + 1) (fun i => if (goneF W has n L T).testBit i then best (W.getD i []) T else out i) (fun i => if (goneF W has n L T).testBit i then r else rounds i)) :
    ∃ T r, LeftOk has n 0 T ∧ P 0 T r (traded W has).1 (traded W has).2 := by
  have h := hM.ttc_ends P hstep n (2 ^ n - 1) (2 ^ n - 1) 0 (fun _ => 0) (fun _ => 0) hM.start (cardF_le _ _) hstart
  simp only [traded, hM.len]
  exact h

theorem best_place {l : List Nat} {T g : Nat} (hg : g ∈ l) (ht : T.testBit g = true) : place l (best l T) ≤ place l g := by
  obtain ⟨k, hk, e, hb⟩ := best_idx ⟨g, hg, ht⟩
  have h1 := place_first hk hb
  obtain ⟨h2, h3⟩ := place_lt hg
  rcases fidx_cases l.length (fun i => T.testBit (l.getD i 0)) with ⟨i, hi, e2, hp, hno⟩ | ⟨e2, hno⟩
  · obtain rfl : i = k := by omega
    rcases Nat.lt_or_ge (place l g) i with h4 | h4
    · have := hno _ h4; rw [h3, ht] at this; cases this
    · omega
  · omega

/-- Nobody gets what they like less than their own thing. -/
theorem Mkt.own_law (hM : Mkt W has n) : ∀ i, i < n → (traded W has).1 i < n ∧ place (W.getD i []) ((traded W has).1 i) ≤ place (W.getD i []) (has.getD i 0) := by
  obtain ⟨T, r, hl, hp⟩ := hM.traded_ends (fun L _ _ out _ => ∀ i, i < n → L.testBit i = false → out i < n ∧ place (W.getD i []) (out i) ≤ place (W.getD i []) (has.getD i 0))
    (fun i hi hb => by rw [full_bit, decide_eq_true hi] at hb; cases hb)
    (fun L T r out rounds hl h0 hp i hi hb => by
      rw [testBit_sdiff] at hb
      dsimp only
      cases hg : (goneF W has n L T).testBit i with
      | false =>
        rw [hg] at hb
        simp only [Bool.not_false, Bool.and_true] at hb
        exact hp i hi hb
      | true =>
        have hL : L.testBit i = true := by
          rw [gone_bit] at hg
          simp only [Bool.and_eq_true] at hg
          exact hg.2.1
        have hbm := best_mem (hM.some_wish hl hi hL)
        exact ⟨((hM.rows i hi).2 _).1 hbm.1, best_place (((hM.rows i hi).2 _).2 (hM.has_lt hi)) ((hl.things _).2 ⟨i, hi, hL, rfl⟩)⟩)
  exact fun i hi => hp i hi (Nat.zero_testBit i)
end
end Go.Proofs.Ytilnbiaabhdfgaa
