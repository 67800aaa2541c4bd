/-
  The trading rule, plain: what holds at its end.
-/
import Derived.Test.YtilnbiaabhdfgaaWishes
namespace Go.Proofs.Ytilnbiaabhdfgaa
open Go.RowKit
set_option linter.unusedVariables false
set_option linter.unusedSimpArgs false

section
variable {W : List (List Nat)} {has : List Nat} {n : Nat}
/-- What every round keeps holds at the end, where nobody is left. -/
theorem Mkt.ttc_ends (hM : Mkt W has n) (P : Nat → Nat → Nat → (Nat → Nat) → (Nat → Nat) → Prop)
    (hstep : ∀ L T r out rounds, LeftOk has n L T → L ≠ 0 → P L T r out rounds →
      P (sdiff L (goneF W has n L T)) (sdiff T (takenF has n (goneF W has n L T))) (r + 1) (fun i => if (goneF W has n L T).testBit i then best (W.getD i []) T else out i) (fun i => if (goneF W has n L T).testBit i then r else rounds i)) :
    ∀ fuel L T r out rounds, LeftOk has n L T → cardF n L ≤ fuel → P L T r out rounds → ∃ T' r', LeftOk has n 0 T' ∧ P 0 T' r' (ttc W has n fuel L T r out rounds).1 (ttc W has n fuel L T r out rounds).2 := by
  intro fuel
  induction fuel with
  | zero =>
    intro L T r out rounds hl hc hp
    have h0 : L = 0 := by
      apply Classical.byContradiction
      intro h0
      have := hM.card_step hl h0
      omega
    subst h0
    exact ⟨T, r, hl, hp⟩
  | succ fuel ih =>
    intro L T r out rounds hl hc hp
    by_cases h0 : L = 0
    · subst h0
      simp only [ttc, if_true]
      exact ⟨T, r, hl, hp⟩
    · simp only [ttc, h0, if_false]
      exact ih _ _ _ _ _ (hM.step hl) (by have := hM.card_step hl h0; omega) (hstep L T r out rounds hl h0 hp)
theorem Mkt.traded_ends (hM : Mkt W has n) (P : Nat → Nat → Nat → (Nat → Nat) → (Nat → Nat) → Prop)
    (hstart : P (2 ^ n - 1) (2 ^ n - 1) 0 (fun _ => 0) (fun _ => 0))
    (hstep : ∀ L T r out rounds, LeftOk has n L T → L ≠ 0 → P L T r out rounds →
      P (sdiff L (goneF W has n L T)) (sdiff T (takenF has n (goneF W has n L T))) (r + 1) (fun i => if (goneF W has n L T).testBit i then best (W.getD i []) T else out i) (fun i => if (goneF W has n L T).testBit i then r else rounds i)) :
    ∃ T r, LeftOk has n 0 T ∧ P 0 T r (traded W has).1 (traded W has).2 := by
  have h := hM.ttc_ends P hstep n (2 ^ n - 1) (2 ^ n - 1) 0 (fun _ => 0) (fun _ => 0) hM.start (cardF_le _ _) hstart
  simp only [traded, hM.len]
  exact h

theorem best_place {l : List Nat} {T g : Nat} (hg : g ∈ l) (ht : T.testBit g = true) : place l (best l T) ≤ place l g := by
  obtain ⟨k, hk, e, hb⟩ := best_idx ⟨g, hg, ht⟩
  have h1 := place_first hk hb
  obtain ⟨h2, h3⟩ := place_lt hg
  rcases fidx_cases l.length (fun i => T.testBit (l.getD i 0)) with ⟨i, hi, e2, hp, hno⟩ | ⟨e2, hno⟩
  · obtain rfl : i = k := by omega
    rcases Nat.lt_or_ge (place l g) i with h4 | h4
    · have := hno _ h4; rw [h3, ht] at this; cases this
    · omega
  · omega

/-- Nobody gets what they like less than their own thing. -/
theorem Mkt.own_law (hM : Mkt W has n) : ∀ i, i < n → (traded W has).1 i < n ∧ place (W.getD i []) ((traded W has).1 i) ≤ place (W.getD i []) (has.getD i 0) := by
  obtain ⟨T, r, hl, hp⟩ := hM.traded_ends (fun L _ _ out _ => ∀ i, i < n → L.testBit i = false → out i < n ∧ place (W.getD i []) (out i) ≤ place (W.getD i []) (has.getD i 0))
    (fun i hi hb => by rw [full_bit, decide_eq_true hi] at hb; cases hb)
    (fun L T r out rounds hl h0 hp i hi hb => by
      rw [testBit_sdiff] at hb
      dsimp only
      cases hg : (goneF W has n L T).testBit i with
      | false =>
        rw [hg] at hb
        simp only [Bool.not_false, Bool.and_true] at hb
        exact hp i hi hb
      | true =>
        have hL : L.testBit i = true := by
          rw [gone_bit] at hg
          simp only [Bool.and_eq_true] at hg
          exact hg.2.1
        have hbm := best_mem (hM.some_wish hl hi hL)
        exact ⟨((hM.rows i hi).2 _).1 hbm.1, best_place (((hM.rows i hi).2 _).2 (hM.has_lt hi)) ((hl.things _).2 ⟨i, hi, hL, rfl⟩)⟩)
  exact fun i hi => hp i hi (Nat.zero_testBit i)

theorem range_getD {n i : Nat} (h : i < n) : (List.range n).getD i 0 = i := by simp [List.getD_eq_getElem?_getD, h]
theorem onCyc_next {f : Nat → Nat} {n i : Nat} (h : onCyc f n i = true) : onCyc f n (f i) = true := by
  obtain ⟨k, h0, hk, e⟩ := onCyc_iff.1 h
  refine onCyc_iff.2 ⟨k, h0, hk, ?_⟩
  have h1 : iter f (1 + k) i = iter f k (f i) := iter_add f i 1 k
  rw [← h1, Nat.add_comm]
  show f (iter f k i) = f i
  rw [e]
theorem best_before {l : List Nat} {T j : Nat} (h : ∃ g ∈ l, T.testBit g = true) (hj : j < place l (best l T)) : T.testBit (l.getD j 0) = false := by
  obtain ⟨k, hk, e, hb⟩ := best_idx h
  have h1 := place_first hk hb
  rcases fidx_cases l.length (fun i => T.testBit (l.getD i 0)) with ⟨i, hi, e2, hp, hno⟩ | ⟨e2, hno⟩
  · obtain rfl : i = k := by omega
    exact hno j (by omega)
  · omega
/-- The rounds: who leaves gets a thing of someone who leaves with them; better things have gone before; no round is empty. -/
theorem Mkt.rounds_law (hM : Mkt W (List.range n) n) :
    (∀ i, i < n → (traded W (List.range n)).1 i < n ∧ (traded W (List.range n)).2 ((traded W (List.range n)).1 i) = (traded W (List.range n)).2 i ∧
      ∀ j, j < place (W.getD i []) ((traded W (List.range n)).1 i) → (traded W (List.range n)).2 ((W.getD i []).getD j 0) < (traded W (List.range n)).2 i) ∧
    (∀ i k, i < n → k < (traded W (List.range n)).2 i → ∃ j, j < n ∧ (traded W (List.range n)).2 j = k) ∧ ∀ i, i < n → (traded W (List.range n)).2 i < n := by
  have hLT : ∀ L T, LeftOk (List.range n) n L T → ∀ g, g < n → T.testBit g = L.testBit g := fun L T hl g hg => by
    have h1 := hM.left_owner hl hg
    have h2 : place (List.range n) g = g := by
      have := hM.place_has hg
      rwa [range_getD hg] at this
    rw [h2] at h1
    exact h1.symm
  obtain ⟨T, r, hl, hp1, hp2, hp3⟩ := hM.traded_ends (fun L _ r out rounds =>
      (∀ i, i < n → L.testBit i = false → rounds i < r ∧ out i < n ∧ L.testBit (out i) = false ∧ rounds (out i) = rounds i ∧
        ∀ j, j < place (W.getD i []) (out i) → L.testBit ((W.getD i []).getD j 0) = false ∧ rounds ((W.getD i []).getD j 0) < rounds i) ∧
      (∀ k, k < r → ∃ j, j < n ∧ L.testBit j = false ∧ rounds j = k) ∧ r + cardF n L ≤ n)
    ⟨fun i hi hb => (by rw [full_bit, decide_eq_true hi] at hb; cases hb), (fun k hk => by omega), by have := cardF_le n (2 ^ n - 1); omega⟩
    (fun L T r out rounds hl h0 hp => by
      obtain ⟨hp1, hp2, hp3⟩ := hp
      have hcs := hM.card_step hl h0
      generalize hG : goneF W (List.range n) n L T = G
      have hGL : ∀ i, G.testBit i = true → i < n ∧ L.testBit i = true ∧ onCyc (nextF W (List.range n) T) n i = true := fun i hi => by
        rw [← hG, gone_bit] at hi
        simp only [Bool.and_eq_true, decide_eq_true_eq] at hi
        exact ⟨hi.1, hi.2.1, hi.2.2⟩
      have hold : ∀ i, L.testBit i = false → G.testBit i = false := fun i hi => by
        cases hg : G.testBit i with
        | false => rfl
        | true => rw [(hGL i hg).2.1] at hi; cases hi
      have hgone : ∀ i, L.testBit i = false → (sdiff L G).testBit i = false := fun i hi => by rw [testBit_sdiff, hi]; rfl
      dsimp only
      rw [hG] at hcs
      refine ⟨fun i hi hb => ?_, fun k hk => ?_, by omega⟩
      · rw [testBit_sdiff] at hb
        cases hg : G.testBit i with
        | false =>
          rw [hg] at hb
          simp only [Bool.not_false, Bool.and_true] at hb
          obtain ⟨h1, h2, h3, h4, h5⟩ := hp1 i hi hb
          simp only [Bool.false_eq_true, if_false]
          rw [if_neg (by rw [hold _ h3]; simp)]
          refine ⟨by omega, h2, hgone _ h3, h4, fun j hj => ?_⟩
          obtain ⟨h6, h7⟩ := h5 j hj
          rw [if_neg (by rw [hold _ h6]; simp)]
          exact ⟨hgone _ h6, h7⟩
        | true =>
          simp only [if_true]
          obtain ⟨_, hLi, hci⟩ := hGL i hg
          obtain ⟨hn1, hn2, hn3⟩ := hM.next_left hl hi hLi
          rw [range_getD hn1] at hn3
          have hgn : G.testBit (nextF W (List.range n) T i) = true := by
            rw [← hG, gone_bit]
            simp [hn1, hn2, onCyc_next hci]
          rw [← hn3, hgn]
          refine ⟨by omega, hn1, ?_, rfl, fun j hj => ?_⟩
          · rw [testBit_sdiff, hgn, Bool.not_true, Bool.and_false]
          · rw [hn3] at hj
            have hsw := hM.some_wish hl hi hLi
            have hTj := best_before hsw hj
            have hjn : (W.getD i []).getD j 0 < n := by
              refine ((hM.rows i hi).2 _).1 (getD_mem ?_)
              have := (place_lt (best_mem hsw).1).1
              omega
            rw [hLT L T hl _ hjn] at hTj
            obtain ⟨h1, _⟩ := hp1 _ hjn hTj
            rw [if_neg (by rw [hold _ hTj]; simp)]
            exact ⟨hgone _ hTj, h1⟩
      · by_cases e : k = r
        · subst e
          obtain ⟨i, hi, hb, hg⟩ := hM.some_gone hl h0
          rw [hG] at hg
          exact ⟨i, hi, by rw [testBit_sdiff, hg, Bool.not_true, Bool.and_false], by rw [if_pos hg]⟩
        · obtain ⟨j, hj, hb, hr⟩ := hp2 k (by omega)
          exact ⟨j, hj, hgone _ hb, by rw [if_neg (by rw [hold _ hb]; simp)]; exact hr⟩)
  refine ⟨fun i hi => ?_, fun i k hi hk => ?_, fun i hi => ?_⟩
  · obtain ⟨h1, h2, h3, h4, h5⟩ := hp1 i hi (Nat.zero_testBit i)
    exact ⟨h2, h4, fun j hj => (h5 j hj).2⟩
  · obtain ⟨h1, _⟩ := hp1 i hi (Nat.zero_testBit i)
    obtain ⟨j, hj, _, hr⟩ := hp2 k (by omega)
    exact ⟨j, hj, hr⟩
  · obtain ⟨h1, _⟩ := hp1 i hi (Nat.zero_testBit i)
    omega
end
end Go.Proofs.Ytilnbiaabhdfgaa
