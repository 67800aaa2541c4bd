/-
  Asking at the same time, plain.
-/
import Derived.Test.YtilnbiaabhdfgaaBase
namespace Go.Proofs.Ytilnbiaabhdfgaa
open Go.RowKit
set_option linter.unusedVariables false
set_option linter.unusedSimpArgs false

/-- One person asks, in a round that began with the things T. -/
def askStep (W : List (List Nat)) (T : Nat) (s : (Nat → Int) × Nat) (i : Nat) : (Nat → Int) × Nat :=
  if 0 ≤ s.1 i then s else if s.2.testBit (best (W.getD i []) T) then s else (fun j => if j = i then (best (W.getD i []) T : Int) else s.1 j, s.2 ||| 2 ^ best (W.getD i []) T)
def askTo (W : List (List Nat)) (T : Nat) (out : Nat → Int) (k : Nat) : (Nat → Int) × Nat := (List.range k).foldl (askStep W T) (out, 0)
theorem askTo_succ (W : List (List Nat)) (T : Nat) (out : Nat → Int) (k : Nat) : askTo W T out (k + 1) = askStep W T (askTo W T out k) k := by simp [askTo, List.range_succ]
def askF (W : List (List Nat)) (n : Nat) : Nat → Nat → (Nat → Int) → (Nat → Int)
  | 0, _, out => out
  | f + 1, T, out => if T = 0 then out else askF W n f (sdiff T (askTo W T out n).2) (askTo W T out n).1
def asked (W : List (List Nat)) (n : Nat) : Nat → Int := askF W n n (2 ^ n - 1) (fun _ => -1)
def askedN (W : List (List Nat)) : List Nat := listF W.length fun i => (asked W W.length i).toNat

/-- Who has nothing yet. -/
def bare (n : Nat) (out : Nat → Int) : Nat := maskF n fun i => decide (out i < 0)
structure AskR (n T : Nat) (s : (Nat → Int) × Nat) : Prop where
  lt : T < 2 ^ n
  sub : ∀ g, s.2.testBit g = true → T.testBit g = true
  val : ∀ i, i < n → s.1 i = -1 ∨ 0 ≤ s.1 i ∧ s.1 i < n
  has : ∀ g : Nat, g < n → ((∃ i, i < n ∧ s.1 i = g) ↔ T.testBit g = false ∨ s.2.testBit g = true)
  card : cardF n (sdiff T s.2) = cardF n (bare n s.1)
theorem AskR.taken_lt {n T : Nat} {s : (Nat → Int) × Nat} (h : AskR n T s) : s.2 < 2 ^ n := by
  apply Nat.lt_pow_two_of_testBit
  intro i hi
  cases hb : s.2.testBit i with
  | false => rfl
  | true => have := testBit_lt h.lt (h.sub i hb); omega
theorem bare_bit (n : Nat) (out : Nat → Int) (i : Nat) : (bare n out).testBit i = (decide (i < n) && decide (out i < 0)) := testBit_maskF n _ i
theorem some_best {W : List (List Nat)} {n T i : Nat} (hW : ∀ i, i < n → Ord (W.getD i []) n) (hT : T < 2 ^ n) (h0 : T ≠ 0) (hi : i < n) : ∃ g ∈ W.getD i [], T.testBit g = true := by
  obtain ⟨g, hg⟩ := exists_bit h0
  exact ⟨g, ((hW i hi).mem g).2 (testBit_lt hT hg), hg⟩
theorem AskR.step {W : List (List Nat)} {n T k : Nat} {s : (Nat → Int) × Nat} (hW : ∀ i, i < n → Ord (W.getD i []) n) (h0 : T ≠ 0) (h : AskR n T s) (hk : k < n) : AskR n T (askStep W T s k) := by
  unfold askStep
  by_cases h1 : 0 ≤ s.1 k
  · rw [if_pos h1]; exact h
  · rw [if_neg h1]
    cases hb : s.2.testBit (best (W.getD k []) T) with
    | true => rw [if_pos rfl]; exact h
    | false =>
      rw [if_neg (by simp)]
      obtain ⟨hm, ht⟩ := best_mem (some_best hW h.lt h0 hk)
      have hgn := ((hW k hk).mem _).1 hm
      generalize best (W.getD k []) T = g at *
      refine ⟨h.lt, fun g' hg' => ?_, fun i hi => ?_, fun g' hg' => ?_, ?_⟩
      · simp only [Nat.testBit_or, Nat.testBit_two_pow, Bool.or_eq_true, decide_eq_true_eq] at hg'
        rcases hg' with hg' | rfl
        · exact h.sub g' hg'
        · exact ht
      · dsimp only
        by_cases e : i = k
        · rw [if_pos e]; right; omega
        · rw [if_neg e]; exact h.val i hi
      · dsimp only
        simp only [Nat.testBit_or, Nat.testBit_two_pow, Bool.or_eq_true, decide_eq_true_eq]
        constructor
        · rintro ⟨i, hi, e⟩
          by_cases e2 : i = k
          · rw [if_pos e2] at e; right; right; omega
          · rw [if_neg e2] at e
            rcases (h.has g' hg').1 ⟨i, hi, e⟩ with h2 | h2
            · exact .inl h2
            · exact .inr (.inl h2)
        · intro h2
          have : (T.testBit g' = false ∨ s.2.testBit g' = true) ∨ g = g' := by
            rcases h2 with h2 | h2 | h2
            · exact .inl (.inl h2)
            · exact .inl (.inr h2)
            · exact .inr h2
          rcases this with h3 | rfl
          · obtain ⟨i, hi, e⟩ := (h.has g' hg').2 h3
            refine ⟨i, hi, ?_⟩
            have : i ≠ k := fun e2 => by subst e2; omega
            rw [if_neg this]; exact e
          · exact ⟨k, hk, by rw [if_pos rfl]⟩
      · dsimp only
        have e1 : sdiff T (s.2 ||| 2 ^ g) = sdiff (sdiff T s.2) (2 ^ g) := by
          apply Nat.eq_of_testBit_eq
          intro i
          simp only [testBit_sdiff, Nat.testBit_or]
          cases T.testBit i <;> cases s.2.testBit i <;> cases (2 ^ g).testBit i <;> rfl
        have e2 : bare n (fun j => if j = k then (g : Int) else s.1 j) = sdiff (bare n s.1) (2 ^ k) := by
          apply Nat.eq_of_testBit_eq
          intro i
          rw [testBit_sdiff, bare_bit, bare_bit, Nat.testBit_two_pow]
          by_cases e : i = k
          · subst e; simp
          · have e9 : ¬ k = i := fun h => e h.symm
            simp [e, e9]
        have c1 := cardF_drop (M := sdiff T s.2) hgn (by rw [testBit_sdiff, ht, hb]; rfl)
        have c2 := cardF_drop (M := bare n s.1) hk (by rw [bare_bit]; simp [hk]; omega)
        rw [e1, e2]
        have := h.card
        omega
theorem AskR.run {W : List (List Nat)} {n T : Nat} {out : Nat → Int} (hW : ∀ i, i < n → Ord (W.getD i []) n) (h0 : T ≠ 0) (h : AskR n T (out, 0)) : ∀ k, k ≤ n → AskR n T (askTo W T out k) := by
  intro k
  induction k with
  | zero => intro _; exact h
  | succ k ih => intro hk; rw [askTo_succ]; exact (ih (by omega)).step hW h0 (by omega)
/-- Behind a round. -/
theorem AskR.next {n T : Nat} {s : (Nat → Int) × Nat} (h : AskR n T s) : AskR n (sdiff T s.2) (s.1, 0) := by
  refine ⟨sdiff_lt _ _ _ h.lt h.taken_lt, fun g hg => by simp at hg, h.val, fun g hg => ?_, ?_⟩
  · rw [h.has g hg, testBit_sdiff]
    simp only [Nat.zero_testBit]
    cases T.testBit g <;> cases s.2.testBit g <;> simp
  · have : sdiff (sdiff T s.2) 0 = sdiff T s.2 := by
      apply Nat.eq_of_testBit_eq; intro i; rw [testBit_sdiff]; simp
    show cardF n (sdiff (sdiff T s.2) 0) = _
    rw [this]; exact h.card
theorem sdiff_zero (T : Nat) : sdiff T 0 = T := by apply Nat.eq_of_testBit_eq; intro i; rw [testBit_sdiff]; simp
theorem askTo_later {W : List (List Nat)} {T : Nat} {out : Nat → Int} : ∀ k j, k ≤ j → (askTo W T out k).1 j = out j := by
  intro k
  induction k with
  | zero => intro j _; rfl
  | succ k ih =>
    intro j hj
    rw [askTo_succ]
    unfold askStep
    have := ih j (by omega)
    split
    · exact this
    · split
      · exact this
      · dsimp only; rw [if_neg (by omega)]; exact this
theorem askTo_some {W : List (List Nat)} {T : Nat} {out : Nat → Int} {i : Nat} (hi : out i < 0) : ∀ k, i < k → (askTo W T out k).2 ≠ 0 := by
  intro k
  induction k with
  | zero => intro h; omega
  | succ k ih =>
    intro hk
    rw [askTo_succ]
    have hor : ∀ a g : Nat, a ||| 2 ^ g ≠ 0 := fun a g e => by
      have : (a ||| 2 ^ g).testBit g = true := by simp [Nat.testBit_or]
      rw [e] at this; simp at this
    by_cases e : i = k
    · subst e
      have h1 := askTo_later (W := W) (T := T) (out := out) i i (Nat.le_refl _)
      unfold askStep
      rw [if_neg (by omega)]
      split
      · rename_i hb
        intro e; rw [e] at hb; simp at hb
      · exact hor _ _
    · have := ih (by omega)
      unfold askStep
      split
      · exact this
      · split
        · exact this
        · exact hor _ _
/-- A round takes something. -/
theorem AskR.takes {W : List (List Nat)} {n T : Nat} {out : Nat → Int} (hW : ∀ i, i < n → Ord (W.getD i []) n) (h0 : T ≠ 0) (h : AskR n T (out, 0)) : ∃ g, T.testBit g = true ∧ (askTo W T out n).2.testBit g = true := by
  obtain ⟨g, hg⟩ := exists_bit h0
  have hc : 0 < cardF n (bare n out) := by
    have := h.card
    rw [show sdiff T (out, 0).2 = T from sdiff_zero T] at this
    rw [← show cardF n T = cardF n (bare n out) from this]
    apply Classical.byContradiction
    intro hz
    have h1 := cardF_drop (testBit_lt h.lt hg) hg
    omega
  obtain ⟨i, hi, hb⟩ := cardF_pos hc
  rw [bare_bit] at hb
  simp only [Bool.and_eq_true, decide_eq_true_eq] at hb
  obtain ⟨g', hg'⟩ := exists_bit (askTo_some (W := W) (T := T) hb.2 n hi)
  exact ⟨g', (h.run hW h0 n (Nat.le_refl _)).sub g' hg', hg'⟩
theorem AskR.less {W : List (List Nat)} {n T : Nat} {out : Nat → Int} (hW : ∀ i, i < n → Ord (W.getD i []) n) (h0 : T ≠ 0) (h : AskR n T (out, 0)) : sdiff T (askTo W T out n).2 < T ∧ cardF n (sdiff T (askTo W T out n).2) < cardF n T := by
  obtain ⟨g, h1, h2⟩ := h.takes hW h0
  refine ⟨sdiff_lt_self ⟨g, h1, h2⟩, cardF_lt (fun i hi => ?_) n ⟨g, testBit_lt h.lt h1, h1, by rw [testBit_sdiff, h1, h2]; rfl⟩⟩
  rw [testBit_sdiff] at hi
  cases hb : T.testBit i with
  | true => rfl
  | false => rw [hb] at hi; cases hi
theorem AskR.all {n : Nat} {out : Nat → Int} (h : AskR n 0 (out, 0)) : ∀ i, i < n → 0 ≤ out i ∧ out i < n := by
  intro i hi
  rcases h.val i hi with h1 | h1
  · exfalso
    have hc := h.card
    have h2 : cardF n (sdiff 0 (out, 0).2) = 0 := by
      rw [show sdiff 0 (out, 0).2 = 0 from sdiff_zero 0]
      have : ∀ m, cardF m 0 = 0 := fun m => by induction m with
        | zero => rfl
        | succ m ih => simp [cardF, ih]
      exact this n
    rw [h2] at hc
    have h1' : out i = -1 := h1
    have h3 := cardF_drop (M := bare n out) hi (by rw [bare_bit]; simp [hi]; omega)
    have : cardF n (bare n (out, (0 : Nat)).1) = cardF n (bare n out) := rfl
    omega
  · exact h1
theorem AskR.ends {W : List (List Nat)} {n : Nat} (hW : ∀ i, i < n → Ord (W.getD i []) n) : ∀ (f T : Nat) (out : Nat → Int), AskR n T (out, 0) → cardF n T ≤ f → AskR n 0 (askF W n f T out, 0) := by
  intro f
  induction f with
  | zero =>
    intro T out h hc
    have hT : T = 0 := by
      apply Classical.byContradiction
      intro h0
      obtain ⟨g, hg⟩ := exists_bit h0
      have := cardF_drop (testBit_lt h.lt hg) hg
      omega
    subst hT; exact h
  | succ f ih =>
    intro T out h hc
    by_cases h0 : T = 0
    · subst h0; simpa [askF] using h
    · have e : askF W n (f + 1) T out = askF W n f (sdiff T (askTo W T out n).2) (askTo W T out n).1 := by simp [askF, h0]
      rw [e]
      have := (h.less hW h0).2
      exact ih _ _ (h.run hW h0 n (Nat.le_refl _)).next (by omega)
theorem ask_start (n : Nat) : AskR n (2 ^ n - 1) (fun _ => -1, 0) := by
  refine ⟨full_lt, fun g hg => by simp at hg, fun i hi => .inl rfl, fun g hg => ?_, ?_⟩
  · constructor
    · rintro ⟨i, hi, e⟩; dsimp only at e; omega
    · intro h; rw [full_bit] at h; simp [hg] at h
  · show cardF n (sdiff (2 ^ n - 1) 0) = _
    rw [sdiff_zero]
    have : bare n (fun _ => -1) = 2 ^ n - 1 := by
      apply Nat.eq_of_testBit_eq; intro i; rw [bare_bit, full_bit]; simp
    rw [show ((fun _ => -1, 0) : (Nat → Int) × Nat).1 = fun _ => -1 from rfl, this]
theorem asked_ok {W : List (List Nat)} {n : Nat} (hW : ∀ i, i < n → Ord (W.getD i []) n) : ∀ i, i < n → 0 ≤ asked W n i ∧ asked W n i < n := (AskR.ends hW n _ _ (ask_start n) (cardF_le _ _)).all
theorem askTo_zero {W : List (List Nat)} {n T : Nat} {out : Nat → Int} (h : ∀ i, i < n → 0 ≤ out i) : ∀ k, k ≤ n → askTo W T out k = (out, 0) := by
  intro k
  induction k with
  | zero => intro _; rfl
  | succ k ih => intro hk; rw [askTo_succ, ih (by omega)]; unfold askStep; rw [if_pos (h k (by omega))]
theorem AskR.run' {W : List (List Nat)} {n T : Nat} {out : Nat → Int} (hW : ∀ i, i < n → Ord (W.getD i []) n) (h : AskR n T (out, 0)) (k : Nat) (hk : k ≤ n) : AskR n T (askTo W T out k) := by
  by_cases h0 : T = 0
  · subst h0; rw [askTo_zero (fun i hi => (h.all i hi).1) k hk]; exact h
  · exact h.run hW h0 k hk
theorem askF_step {W : List (List Nat)} {n T : Nat} {out : Nat → Int} (hW : ∀ i, i < n → Ord (W.getD i []) n) (h : AskR n T (out, 0)) (f : Nat) : askF W n (f + 1) T out = askF W n f (sdiff T (askTo W T out n).2) (askTo W T out n).1 := by
  by_cases h0 : T = 0
  · subst h0
    rw [askTo_zero (fun i hi => (h.all i hi).1) n (Nat.le_refl _)]
    have : sdiff 0 (out, 0).2 = 0 := sdiff_zero 0
    rw [this]
    cases f <;> simp [askF]
  · simp [askF, h0]
theorem AskR.fewer {W : List (List Nat)} {n T f : Nat} {out : Nat → Int} (hW : ∀ i, i < n → Ord (W.getD i []) n) (h : AskR n T (out, 0)) (hf : cardF n T ≤ f + 1) : cardF n (sdiff T (askTo W T out n).2) ≤ f := by
  by_cases h0 : T = 0
  · subst h0
    rw [askTo_zero (fun i hi => (h.all i hi).1) n (Nat.le_refl _)]
    have e : sdiff 0 (out, 0).2 = 0 := sdiff_zero 0
    have h2 := h.card
    rw [e] at h2 ⊢
    have : ∀ m, cardF m 0 = 0 := fun m => by induction m with
      | zero => rfl
      | succ m ih => simp [cardF, ih]
    rw [this]; omega
  · have := (h.less hW h0).2; omega
end Go.Proofs.Ytilnbiaabhdfgaa
