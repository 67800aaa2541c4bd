/-
  The trading rule, plain: what its outcome is, whoever has what; no group objects to it, nothing else is so, and no lie helps.
-/
import Derived.Test.YtilnbiaabhdfgaaTtcLaws
namespace Go.Proofs.Ytilnbiaabhdfgaa
open Go.RowKit
set_option linter.unusedVariables false
set_option linter.unusedSimpArgs false

theorem iter_mul {f : Nat → Nat} {i k : Nat} (h : iter f k i = i) : ∀ m, iter f (m * k) i = i
  | 0 => by rw [Nat.zero_mul]; rfl
  | m + 1 => by rw [Nat.add_mul, Nat.one_mul, iter_add, iter_mul h m]; exact h
/-- Two on ways back who point to the same one are the same. -/
theorem onCyc_inj {f : Nat → Nat} {n i j : Nat} (hi : onCyc f n i = true) (hj : onCyc f n j = true) (e : f i = f j) : i = j := by
  obtain ⟨a, a0, _, ha⟩ := onCyc_iff.1 hi
  obtain ⟨b, b0, _, hb⟩ := onCyc_iff.1 hj
  have h1 := iter_mul ha b
  have h2 := iter_mul hb a
  rw [Nat.mul_comm a b] at h2
  have hp : 0 < b * a := Nat.mul_pos b0 a0
  have e1 : b * a = 1 + (b * a - 1) := by omega
  rw [e1, iter_add] at h1 h2
  have s1 : iter f 1 i = f i := rfl
  have s2 : iter f 1 j = f j := rfl
  rw [s1, e] at h1
  rw [s2] at h2
  exact h1.symm.trans h2

/-- On finitely many numbers what is injective reaches everything. -/
theorem surj_on {n : Nat} {f : Nat → Nat} {P : Nat → Prop} (hlt : ∀ k, P k → k < n) (hP : ∀ k, P k → P (f k)) (hinj : ∀ j k, P j → P k → f j = f k → j = k) {y : Nat} (hy : P y) : ∃ k, P k ∧ f k = y := by
  have hin : ∀ k, P (iter f k y) := fun k => by
    induction k with
    | zero => exact hy
    | succ k ih => exact hP _ ih
  obtain ⟨a, b, hab, _, e⟩ := pigeon n (fun k => iter f k y) (fun k _ => hlt _ (hin k))
  have key : ∀ a d, iter f a y = iter f (a + d) y → y = iter f d y := by
    intro a
    induction a with
    | zero => intro d h; rw [Nat.zero_add] at h; exact h
    | succ a ih =>
      intro d h
      rw [show a + 1 + d = (a + d) + 1 from by omega] at h
      exact ih d (hinj _ _ (hin _) (hin _) h)
  have h := key a (b - a) (by rw [show a + (b - a) = b from by omega]; exact e)
  refine ⟨iter f (b - a - 1) y, hin _, ?_⟩
  have h2 : iter f (b - a - 1 + 1) y = y := by rw [show b - a - 1 + 1 = b - a from by omega]; exact h.symm
  exact h2

theorem place_inj {l : List Nat} {n a b : Nat} (h : Ord l n) (ha : a < n) (hb : b < n) (e : place l a = place l b) : a = b := by
  have h1 := (place_lt ((h.mem a).2 ha)).2
  have h2 := (place_lt ((h.mem b).2 hb)).2
  rw [e] at h1
  exact h1.symm.trans h2

/-- What the trading rule gives, whoever has what: t, in the rounds r. -/
structure TtcGen (W : List (List Nat)) (has : List Nat) (n : Nat) (t r : Nat → Nat) : Prop where
  lt : ∀ i, i < n → t i < n
  inj : ∀ i j, i < n → j < n → t i = t j → i = j
  same : ∀ i k, i < n → k < n → has.getD k 0 = t i → r k = r i
  pre : ∀ i k, i < n → k < n → place (W.getD i []) (has.getD k 0) < place (W.getD i []) (t i) → r k < r i

theorem Mkt.gen {W : List (List Nat)} {has : List Nat} {n : Nat} (hM : Mkt W has n) : TtcGen W has n (traded W has).1 (traded W has).2 := by
  have hord : ∀ i, i < n → Ord (W.getD i []) n := fun i hi => ⟨(hM.rows i hi).1, (hM.rows i hi).2⟩
  obtain ⟨T, r, hl, hp1, hp2⟩ := hM.traded_ends (fun L _ r out rounds =>
      (∀ i, i < n → L.testBit i = false → out i < n ∧ (∀ k, k < n → has.getD k 0 = out i → L.testBit k = false ∧ rounds k = rounds i) ∧
        (∀ k, k < n → place (W.getD i []) (has.getD k 0) < place (W.getD i []) (out i) → L.testBit k = false ∧ rounds k < rounds i)) ∧
      ((∀ i j, i < n → j < n → L.testBit i = false → L.testBit j = false → out i = out j → i = j) ∧ ∀ i, i < n → L.testBit i = false → rounds i < r))
    ⟨fun i hi hb => (by rw [full_bit, decide_eq_true hi] at hb; cases hb), fun i j hi hj hb => (by rw [full_bit, decide_eq_true hi] at hb; cases hb), fun i hi hb => (by rw [full_bit, decide_eq_true hi] at hb; cases hb)⟩
    (fun L T r out rounds hl h0 hp => by
      obtain ⟨hp1, hp2, hp3⟩ := hp
      generalize hG : goneF W has n L T = G
      have hGL : ∀ i, G.testBit i = true → i < n ∧ L.testBit i = true ∧ onCyc (nextF W has T) n i = true := fun i hi => by
        rw [← hG, gone_bit] at hi
        simp only [Bool.and_eq_true, decide_eq_true_eq] at hi
        exact ⟨hi.1, hi.2.1, hi.2.2⟩
      have hold : ∀ i, L.testBit i = false → G.testBit i = false := fun i hi => by
        cases hg : G.testBit i with
        | false => rfl
        | true => rw [(hGL i hg).2.1] at hi; cases hi
      have hgone : ∀ i, L.testBit i = false → (sdiff L G).testBit i = false := fun i hi => by rw [testBit_sdiff, hi]; rfl
      have hnew : ∀ i, i < n → (sdiff L G).testBit i = false → G.testBit i = true ∨ L.testBit i = false := fun i hi hb => by
        rw [testBit_sdiff] at hb
        cases hg : G.testBit i with
        | true => exact .inl rfl
        | false => rw [hg, Bool.not_false, Bool.and_true] at hb; exact .inr hb
      have hnx : ∀ i, G.testBit i = true → nextF W has T i < n ∧ L.testBit (nextF W has T i) = true ∧ has.getD (nextF W has T i) 0 = best (W.getD i []) T ∧ G.testBit (nextF W has T i) = true := fun i hg => by
        obtain ⟨h1, h2, h3⟩ := hGL i hg
        obtain ⟨n1, n2, n3⟩ := hM.next_left hl h1 h2
        exact ⟨n1, n2, n3, by rw [← hG, gone_bit]; simp [n1, n2, onCyc_next h3]⟩
      have howner : ∀ i, i < n → L.testBit i = false → ∃ k, k < n ∧ has.getD k 0 = out i := fun i hi hb => by
        obtain ⟨h1, h2⟩ := place_lt ((hM.hmem _).2 (hp1 i hi hb).1)
        exact ⟨_, by rw [← hM.hlen]; exact h1, h2⟩
      dsimp only
      refine ⟨fun i hi hb => ?_, fun i j hi hj hbi hbj e => ?_, fun i hi hb => ?_⟩
      · rcases hnew i hi hb with hg | hb'
        · obtain ⟨n1, n2, n3, n4⟩ := hnx i hg
          simp only [hg, if_true]
          have hsw := hM.some_wish hl hi (hGL i hg).2.1
          have hbm := best_mem hsw
          refine ⟨((hM.rows i hi).2 _).1 hbm.1, fun k hk e => ?_, fun k hk hlt => ?_⟩
          · have ek : k = nextF W has T i := hM.hinj _ _ hk n1 (e.trans n3.symm)
            rw [ek]
            refine ⟨by rw [testBit_sdiff, n4, Bool.not_true, Bool.and_false], by rw [if_pos n4]⟩
          · have hm := ((hM.rows i hi).2 _).2 (hM.has_lt hk)
            have hTj := best_before hsw hlt
            rw [(place_lt hm).2] at hTj
            have hLk : L.testBit k = false := by
              cases hb : L.testBit k with
              | false => rfl
              | true => rw [(hl.things _).2 ⟨k, hk, hb, rfl⟩] at hTj; cases hTj
            exact ⟨hgone _ hLk, by rw [if_neg (by rw [hold _ hLk]; simp)]; exact hp3 k hk hLk⟩
        · obtain ⟨h1, h2, h3⟩ := hp1 i hi hb'
          simp only [hold i hb', Bool.false_eq_true, if_false]
          refine ⟨h1, fun k hk e => ?_, fun k hk hlt => ?_⟩
          · obtain ⟨h4, h5⟩ := h2 k hk e
            exact ⟨hgone _ h4, by rw [if_neg (by rw [hold _ h4]; simp)]; exact h5⟩
          · obtain ⟨h4, h5⟩ := h3 k hk hlt
            exact ⟨hgone _ h4, by rw [if_neg (by rw [hold _ h4]; simp)]; exact h5⟩
      · rcases hnew i hi hbi with hgi | hbi'
        · rcases hnew j hj hbj with hgj | hbj'
          · simp only [hgi, hgj, if_true] at e
            obtain ⟨n1, n2, n3, n4⟩ := hnx i hgi
            obtain ⟨m1, m2, m3, m4⟩ := hnx j hgj
            exact onCyc_inj (hGL i hgi).2.2 (hGL j hgj).2.2 (hM.hinj _ _ n1 m1 (by rw [n3, m3, e]))
          · exfalso
            simp only [hgi, hold j hbj', if_true, Bool.false_eq_true, if_false] at e
            obtain ⟨n1, n2, n3, n4⟩ := hnx i hgi
            have := ((hp1 j hj hbj').2.1 _ n1 (by rw [n3, e])).1
            rw [n2] at this; cases this
        · rcases hnew j hj hbj with hgj | hbj'
          · exfalso
            simp only [hgj, hold i hbi', if_true, Bool.false_eq_true, if_false] at e
            obtain ⟨n1, n2, n3, n4⟩ := hnx j hgj
            have := ((hp1 i hi hbi').2.1 _ n1 (by rw [n3, e])).1
            rw [n2] at this; cases this
          · simp only [hold i hbi', hold j hbj', Bool.false_eq_true, if_false] at e
            exact hp2 i j hi hj hbi' hbj' e
      · rcases hnew i hi hb with hg | hb'
        · simp only [hg, if_true]; omega
        · simp only [hold i hb', Bool.false_eq_true, if_false]
          have := hp3 i hi hb'; omega)
  refine ⟨fun i hi => (hp1 i hi (Nat.zero_testBit i)).1, fun i j hi hj e => hp2.1 i j hi hj (Nat.zero_testBit i) (Nat.zero_testBit j) e, fun i k hi hk e => ((hp1 i hi (Nat.zero_testBit i)).2.1 k hk e).2, fun i k hi hk h => ((hp1 i hi (Nat.zero_testBit i)).2.2 k hk h).2⟩

/-- What the trading rule gives where person i has thing i. -/
structure Ttc (W : List (List Nat)) (n : Nat) (t r : Nat → Nat) : Prop where
  lt : ∀ i, i < n → t i < n
  inj : ∀ i j, i < n → j < n → t i = t j → i = j
  same : ∀ i, i < n → r (t i) = r i
  pre : ∀ i y, i < n → y < n → place (W.getD i []) y < place (W.getD i []) (t i) → r y < r i
theorem Mkt.ttc {W : List (List Nat)} {n : Nat} (hM : Mkt W (List.range n) n) : Ttc W n (traded W (List.range n)).1 (traded W (List.range n)).2 := by
  have h := hM.gen
  exact ⟨h.lt, h.inj, fun i hi => h.same i _ hi (h.lt i hi) (range_getD (h.lt i hi)), fun i y hi hy hp => h.pre i y hi hy (by rw [range_getD hy]; exact hp)⟩

section
variable {W W' : List (List Nat)} {n : Nat} {t r t' r' x o : Nat → Nat}
/-- Nobody objects: a group that exchanges its own things so that nobody of it gets what they like less has just what the rule gives. -/
theorem Ttc.no_block (h : Ttc W n t r) (hW : ∀ i, i < n → Ord (W.getD i []) n) {S : Nat → Prop} (hlt : ∀ k, S k → k < n) (hx : ∀ k, S k → S (x k)) (hinj : ∀ j k, S j → S k → x j = x k → j = k)
    (hw : ∀ k, S k → place (W.getD k []) (x k) ≤ place (W.getD k []) (t k)) : ∀ k, S k → x k = t k := by
  have key : ∀ m k, S k → r k < m → x k = t k := by
    intro m
    induction m with
    | zero => intro k _ hk; omega
    | succ m ih =>
      intro k hk hm
      by_cases e : r k < m
      · exact ih k hk e
      · apply Classical.byContradiction
        intro hne
        have hkn := hlt k hk
        have hxn := hlt _ (hx k hk)
        have h1 : place (W.getD k []) (x k) ≠ place (W.getD k []) (t k) := fun e => hne (place_inj (hW k hkn) hxn (h.lt k hkn) e)
        have h2 := hw k hk
        have h3 := h.pre k (x k) hkn hxn (by omega)
        obtain ⟨j, ⟨hj, hjr⟩, e2⟩ := surj_on (n := n) (f := x) (P := fun j => S j ∧ r j < r k) (fun j hj => hlt j hj.1)
          (fun j hj => ⟨hx j hj.1, by rw [ih j hj.1 (by omega), h.same j (hlt j hj.1)]; exact hj.2⟩) (fun a b ha hb e => hinj a b ha.1 hb.1 e) (y := x k) ⟨hx k hk, h3⟩
        have := hinj j k hj hk e2
        subst this
        omega
  exact fun k hk => key (r k + 1) k hk (by omega)

/-- Where an outcome is the rule's in the rounds before m, the group of the round m would have it be the rule's. -/
theorem Ttc.blocks (h : Ttc W n t r) (holt : ∀ i, i < n → o i < n) (hoinj : ∀ i j, i < n → j < n → o i = o j → i = j) {m : Nat} (hlow : ∀ j, j < n → r j < m → o j = t j) :
    ∀ k, k < n → r k = m → place (W.getD k []) (t k) ≤ place (W.getD k []) (o k) := by
  intro k hk hm
  apply Classical.byContradiction
  intro hc
  have h3 := h.pre k (o k) hk (holt k hk) (by omega)
  obtain ⟨j, ⟨hj, hjr⟩, e2⟩ := surj_on (n := n) (f := t) (P := fun j => j < n ∧ r j < m) (fun j hj => hj.1) (fun j hj => ⟨h.lt j hj.1, by rw [h.same j hj.1]; exact hj.2⟩) (fun a b ha hb e => h.inj a b ha.1 hb.1 e) (y := o k) ⟨holt k hk, by omega⟩
  have := hoinj j k hj hk (by rw [hlow j hj hjr]; exact e2)
  subst this
  omega
/-- The first round in which an outcome differs. -/
theorem first_differ (r t o : Nat → Nat) (n : Nat) : ∀ (m k : Nat), r k < m → k < n → o k ≠ t k → ∃ k', k' < n ∧ o k' ≠ t k' ∧ ∀ j, j < n → r j < r k' → o j = t j := by
  intro m
  induction m with
  | zero => intro k h; omega
  | succ m ih =>
    intro k hm hk hne
    by_cases h : ∃ j, j < n ∧ r j < r k ∧ o j ≠ t j
    · obtain ⟨j, hj, hr, hne'⟩ := h
      exact ih j (by omega) hj hne'
    · refine ⟨k, hk, hne, fun j hj hr => ?_⟩
      apply Classical.byContradiction
      intro hne'
      exact h ⟨j, hj, hr, hne'⟩
/-- Some group objects to every other outcome: the people of one round, who exchange as the rule says. -/
theorem Ttc.objects (h : Ttc W n t r) (holt : ∀ i, i < n → o i < n) (hoinj : ∀ i j, i < n → j < n → o i = o j → i = j) {k : Nat} (hk : k < n) (hne : o k ≠ t k) :
    ∃ m, (∃ k, k < n ∧ r k = m ∧ o k ≠ t k) ∧ ∀ k, k < n → r k = m → place (W.getD k []) (t k) ≤ place (W.getD k []) (o k) := by
  obtain ⟨k', hk', hne', hlow⟩ := first_differ r t o n (r k + 1) k (by omega) hk hne
  exact ⟨r k', ⟨k', hk', rfl, hne'⟩, h.blocks holt hoinj hlow⟩
/-- The rule's outcome is the only one of its kind. -/
theorem Ttc.unique (h : Ttc W n t r) (h' : Ttc W n t' r') (hW : ∀ i, i < n → Ord (W.getD i []) n) : ∀ i, i < n → t i = t' i := by
  intro i hi
  apply Classical.byContradiction
  intro hne
  obtain ⟨m, ⟨k, hk, hkm, hne'⟩, hb⟩ := h.objects h'.lt h'.inj hi (fun e => hne e.symm)
  exact hne' (h'.no_block hW (S := fun k => k < n ∧ r k = m) (x := t) (fun k hk => hk.1) (fun k hk => ⟨h.lt k hk.1, by rw [h.same k hk.1]; exact hk.2⟩) (fun a b ha hb e => h.inj a b ha.1 hb.1 e) (fun k hk => hb k hk.1 hk.2) k ⟨hk, hkm⟩).symm
/-- No lie helps. -/
theorem Ttc.honest (h : Ttc W n t r) (h' : Ttc W' n t' r') (hW' : ∀ i, i < n → Ord (W'.getD i []) n) {i : Nat} (hi : i < n) (he : ∀ j, j < n → j ≠ i → W'.getD j [] = W.getD j []) :
    place (W.getD i []) (t i) ≤ place (W.getD i []) (t' i) := by
  have key : ∀ m, m ≤ r i → ∀ j, j < n → r j < m → t' j = t j := by
    intro m
    induction m with
    | zero => intro _ j _ hr; omega
    | succ m ih =>
      intro hm j hj hr
      by_cases e : r j < m
      · exact ih (by omega) j hj e
      · have hb := h.blocks h'.lt h'.inj (ih (by omega))
        exact (h'.no_block hW' (S := fun k => k < n ∧ r k = m) (x := t) (fun k hk => hk.1) (fun k hk => ⟨h.lt k hk.1, by rw [h.same k hk.1]; exact hk.2⟩) (fun a b ha hb e => h.inj a b ha.1 hb.1 e)
          (fun k hk => by rw [he k hk.1 (fun e => by subst e; omega)]; exact hb k hk.1 hk.2) j ⟨hj, by omega⟩).symm
  exact h.blocks h'.lt h'.inj (key (r i) (Nat.le_refl _)) i hi rfl
end
end Go.Proofs.Ytilnbiaabhdfgaa
