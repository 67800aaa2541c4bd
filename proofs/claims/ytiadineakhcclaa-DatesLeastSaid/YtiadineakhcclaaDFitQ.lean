/-
  dates (plain): the reference's Fits: the least by Due of what is left, again and again.
-/
import Derived.Test.YtiadineakhcclaaDFitP
namespace Go.Proofs.Ytiadineakhcclaa
open Go.RowKit
set_option linter.unusedVariables false
set_option linter.unusedSimpArgs false

theorem if_iff {p q : Prop} [Decidable p] [Decidable q] (h : p ↔ q) (a b : Int) : (if p then a else b) = if q then a else b := by
  by_cases hp : p
  · rw [if_pos hp, if_pos (h.1 hp)]
  · rw [if_neg hp, if_neg (fun hq => hp (h.2 hq))]
/-- The least of T by Due among the first k, or -1. -/
def leF (L : List J4) (T : Nat) : Nat → Int
  | 0 => -1
  | k + 1 => if T.testBit k = true ∧ (leF L T k < 0 ∨ (L.getD k j0).d < (L.getD (leF L T k).toNat j0).d) then (k : Int) else leF L T k
theorem leF_spec (L : List J4) (T : Nat) : ∀ k, (leF L T k = -1 ∧ ∀ i, i < k → T.testBit i = false) ∨ ∃ a : Nat, leF L T k = a ∧ a < k ∧ T.testBit a = true ∧ ∀ i, i < k → T.testBit i = true → leK (due L) a i
  | 0 => .inl ⟨rfl, fun i hi => by omega⟩
  | k + 1 => by
      unfold leF
      rcases leF_spec L T k with ⟨h1, h2⟩ | ⟨a, h1, h2, h3, h4⟩
      · rw [h1]
        by_cases hb : T.testBit k = true
        · rw [if_pos ⟨hb, .inl (by omega)⟩]
          refine .inr ⟨k, rfl, by omega, hb, fun i hi hbi => ?_⟩
          by_cases e : i = k
          · exact .inr e.symm
          · rw [h2 i (by omega)] at hbi; cases hbi
        · rw [if_neg (fun h => hb h.1)]
          refine .inl ⟨rfl, fun i hi => ?_⟩
          by_cases e : i = k
          · subst e; exact Bool.eq_false_iff.2 hb
          · exact h2 i (by omega)
      · rw [h1, Int.toNat_natCast]
        by_cases hb : T.testBit k = true ∧ (L.getD k j0).d < (L.getD a j0).d
        · rw [if_pos ⟨hb.1, .inr hb.2⟩]
          refine .inr ⟨k, rfl, by omega, hb.1, fun i hi hbi => ?_⟩
          by_cases e : i = k
          · exact .inr e.symm
          · have h5 := h4 i (by omega) hbi
            have h6 : due L k < due L a := hb.2
            unfold leK ltK at h5 ⊢
            rcases h5 with h5 | h5
            · left; omega
            · subst h5; left; omega
        · rw [if_neg (fun h => hb ⟨h.1, by rcases h.2 with h | h; omega; exact h⟩)]
          refine .inr ⟨a, rfl, by omega, h3, fun i hi hbi => ?_⟩
          by_cases e : i = k
          · subst e
            have h6 : ¬ due L i < due L a := fun h => hb ⟨hbi, h⟩
            unfold leK ltK
            left; omega
          · exact h4 i (by omega) hbi
/-- What the reference's Fits holds after k rounds. -/
structure RF (L : List J4) (S k T : Nat) (now : Int) : Prop where
  sub : ∀ i, T.testBit i = true → S.testBit i = true
  lt : T < 2 ^ 8
  now_ : now = sumF (fun j => if S.testBit j = true ∧ T.testBit j = false then (L.getD j j0).t else 0) L.length
  fit : ∀ i, i < L.length → S.testBit i = true → T.testBit i = false → workK L S i ≤ (L.getD i j0).d
  before : ∀ i j, S.testBit i = true → T.testBit i = false → T.testBit j = true → i < L.length → j < L.length → ltK (due L) i j
  card : cardF L.length T + k ≤ L.length
theorem RF.zero {L : List J4} {S : Nat} (hS : S < 256) : RF L S 0 S 0 := by
  have hno : ∀ i, ¬ (S.testBit i = true ∧ S.testBit i = false) := fun i h => by rw [h.1] at h; cases h.2
  refine ⟨fun _ h => h, hS, ?_, fun i _ h1 h2 => absurd ⟨h1, h2⟩ (hno i), fun i j h1 h2 => absurd ⟨h1, h2⟩ (hno i), by have := cardF_le L.length S; omega⟩
  have : ∀ n, sumF (fun j => if S.testBit j = true ∧ S.testBit j = false then (L.getD j j0).t else 0) n = 0 := fun n => by
    induction n with
    | zero => rfl
    | succ n ih => rw [sumF, ih, if_neg (hno n)]; omega
  exact (this _).symm
theorem RF.bd {L : List J4} {S k T : Nat} {now : Int} (h : RF L S k T now) (hL : JobsOk L) : 0 ≤ now ∧ now ≤ 160 := by
  have : ∀ n, n ≤ L.length → 0 ≤ sumF (fun j => if S.testBit j = true ∧ T.testBit j = false then (L.getD j j0).t else 0) n ∧ sumF (fun j => if S.testBit j = true ∧ T.testBit j = false then (L.getD j j0).t else 0) n ≤ 20 * n := fun n => by
    induction n with
    | zero => intro _; exact ⟨Int.le_refl _, by simp [sumF]⟩
    | succ n ih =>
      intro hn
      obtain ⟨h1, h2⟩ := ih (by omega)
      have h3 := hL.at_ n (by omega)
      rw [sumF]
      split <;> constructor <;> push_cast <;> omega
  have h1 := this L.length (Nat.le_refl _)
  have := hL.le
  rw [h.now_]
  omega
theorem RF.work {L : List J4} {S k T : Nat} {now : Int} (h : RF L S k T now) {a : Nat} (ha : a < L.length) (hb : T.testBit a = true) (hle : ∀ i, i < L.length → T.testBit i = true → leK (due L) a i) : workK L S a = now + (L.getD a j0).t := by
  have h1 := sumF_one (f := fun j => if S.testBit j = true ∧ leK (due L) j a then (L.getD j j0).t else 0) (g := fun j => if S.testBit j = true ∧ T.testBit j = false then (L.getD j j0).t else 0) (i := a) L.length (fun j hj hne => by
    show (if _ then _ else _) = (if _ then _ else _)
    refine if_iff ⟨fun ⟨h2, h3⟩ => ⟨h2, ?_⟩, fun ⟨h2, h3⟩ => ⟨h2, .inl (h.before j a h2 h3 hb hj ha)⟩⟩ _ _
    cases hT : T.testBit j with
    | false => rfl
    | true =>
      have h5 := hle j hj hT
      unfold leK ltK at h3 h5
      omega)
  unfold workK
  rw [h1, if_pos ha, ← h.now_]
  rw [if_pos ⟨h.sub a hb, .inr rfl⟩, if_neg (by rw [hb]; intro h; cases h.2)]
  omega
theorem RF.next {L : List J4} {S k T : Nat} {now : Int} (h : RF L S k T now) {a : Nat} (ha : a < L.length) (hb : T.testBit a = true) (hle : ∀ i, i < L.length → T.testBit i = true → leK (due L) a i) (hd : now + (L.getD a j0).t ≤ (L.getD a j0).d) (h8 : a < 8) :
    RF L S (k + 1) (sdiff T (2 ^ a)) (now + (L.getD a j0).t) := by
  have hbit : ∀ i, (sdiff T (2 ^ a)).testBit i = (T.testBit i && !decide (a = i)) := fun i => by rw [testBit_sdiff, Nat.testBit_two_pow]
  have hone : ∀ i, (sdiff T (2 ^ a)).testBit i = false → T.testBit i = false ∨ i = a := fun i hi => by
    rw [hbit] at hi
    cases hT : T.testBit i with
    | false => exact .inl rfl
    | true => rw [hT] at hi; simp at hi; exact .inr hi.symm
  have htwo : ∀ i, (sdiff T (2 ^ a)).testBit i = true → T.testBit i = true ∧ i ≠ a := fun i hi => by
    rw [hbit] at hi; simp at hi; exact ⟨hi.1, fun e => hi.2 e.symm⟩
  have hw := h.work ha hb hle
  refine ⟨fun i hi => h.sub i (htwo i hi).1, sdiff_lt _ _ _ h.lt (Nat.pow_lt_pow_right (by decide) h8), ?_, fun i hi h1 h2 => ?_, fun i j h1 h2 h3 hi hj => ?_, ?_⟩
  · have h1 := sumF_one (f := fun j => if S.testBit j = true ∧ (sdiff T (2 ^ a)).testBit j = false then (L.getD j j0).t else 0) (g := fun j => if S.testBit j = true ∧ T.testBit j = false then (L.getD j j0).t else 0) (i := a) L.length (fun j hj hne => by
      show (if _ then _ else _) = (if _ then _ else _)
      refine if_iff ⟨fun ⟨h2, h3⟩ => ⟨h2, ?_⟩, fun ⟨h2, h3⟩ => ⟨h2, by rw [hbit, h3]; rfl⟩⟩ _ _
      rcases hone j h3 with h4 | h4
      · exact h4
      · exact absurd h4 hne)
    rw [h1, if_pos ha, ← h.now_, if_pos ⟨h.sub a hb, by rw [hbit]; simp⟩, if_neg (by rw [hb]; intro h; cases h.2)]
    omega
  · rcases hone i h2 with h3 | h3
    · exact h.fit i hi h1 h3
    · subst h3; rw [hw]; exact hd
  · obtain ⟨h4, h5⟩ := htwo j h3
    rcases hone i h2 with h6 | h6
    · exact h.before i j h1 h6 h4 hi hj
    · subst h6
      rcases hle j hj h4 with h7 | h7
      · exact h7
      · exact absurd h7.symm h5
  · have := cardF_drop (n := L.length) ha hb
    have := h.card
    omega
theorem RF.no {L : List J4} {S k T : Nat} {now : Int} (h : RF L S k T now) {a : Nat} (ha : a < L.length) (hb : T.testBit a = true) (hle : ∀ i, i < L.length → T.testBit i = true → leK (due L) a i) (hd : ¬ now + (L.getD a j0).t ≤ (L.getD a j0).d) : fitB L S = false := by
  rw [fitB, decide_eq_false_iff_not]
  intro hf
  have := hf a ha (h.sub a hb)
  rw [h.work ha hb hle] at this
  exact hd this
theorem RF.yes {L : List J4} {S k T : Nat} {now : Int} (h : RF L S k T now) (he : ∀ i, i < L.length → T.testBit i = false) : fitB L S = true := by
  rw [fitB, decide_eq_true_iff]
  exact fun i hi hb => h.fit i hi hb (he i hi)
theorem RF.end_ {L : List J4} {S T : Nat} {now : Int} (h : RF L S L.length T now) : fitB L S = true := by
  refine h.yes fun i hi => ?_
  cases hT : T.testBit i with
  | false => rfl
  | true =>
    have h1 := cardF_drop (n := L.length) hi hT
    have := h.card
    omega
end Go.Proofs.Ytiadineakhcclaa
