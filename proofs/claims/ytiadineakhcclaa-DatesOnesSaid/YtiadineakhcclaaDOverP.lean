/-
  Plain: the first overloaded stretch.
-/
import Derived.Test.YtiadineakhcclaaDEdf
import Derived.Test.YtiadineakhcclaaDRefs
import Derived.Deep.Cut
namespace Go.Proofs.Ytiadineakhcclaa
open Go.RowKit Go.Deep
set_option linter.unusedVariables false
set_option linter.unusedSimpArgs false

/-- The first overloaded stretch. -/
structure OvP (L : List J4) (a b : Int) : Prop where
  a0 : 0 ≤ a
  ab : a ≤ b
  b9 : b ≤ 400
  ld : b - a < loadN L a b
  first : ∀ a' b', 0 ≤ a' → a' ≤ b' → b' ≤ 400 → (a' < a ∨ a' = a ∧ b' < b) → ¬ b' - a' < loadN L a' b'
theorem OvP.uniq {L : List J4} {a b a' b' : Int} (h : OvP L a b) (h' : OvP L a' b') : a = a' ∧ b = b' := by
  have h1 := h.first a' b' h'.a0 h'.ab h'.b9
  have h2 := h'.first a b h.a0 h.ab h.b9
  by_cases e : a = a'
  · subst e
    refine ⟨rfl, ?_⟩
    rcases Int.lt_trichotomy b b' with h3 | h3 | h3
    · exact absurd h.ld (h2 (.inr ⟨rfl, h3⟩))
    · exact h3
    · exact absurd h'.ld (h1 (.inr ⟨rfl, h3⟩))
  · rcases Int.lt_trichotomy a a' with h3 | h3 | h3
    · exact absurd h.ld (h2 (.inl h3))
    · exact absurd h3 e
    · exact absurd h'.ld (h1 (.inl h3))
theorem delTo_ge {L : List J4} {e : List Int} : ∀ k, ∀ i, i < k → e.getD i 0 - (L.getD i j0).d ≤ delTo L e k
  | 0, i, hi => absurd hi (by omega)
  | k + 1, i, hi => by
    rw [delTo]
    by_cases e2 : i = k
    · subst e2; omega
    · have := delTo_ge (L := L) (e := e) k i (by omega); omega
theorem delTo_at {L : List J4} {e : List Int} : ∀ k, ∃ i, (i < k ∨ i = 0) ∧ delTo L e k = e.getD i 0 - (L.getD i j0).d
  | 0 => ⟨0, .inr rfl, rfl⟩
  | k + 1 => by
    obtain ⟨i, hi, h⟩ := delTo_at (L := L) (e := e) k
    rw [delTo]
    by_cases h2 : delTo L e k ≤ e.getD k 0 - (L.getD k j0).d
    · exact ⟨k, .inl (by omega), by omega⟩
    · exact ⟨i, by omega, by omega⟩
theorem delN_at {L : List J4} (hL : JobsOk L) (p : List P3) : ∃ i, i < L.length ∧ delN L p = (finN L.length p).getD i 0 - (L.getD i j0).d := by
  obtain ⟨i, hi, h⟩ := delTo_at (L := L) (e := finN L.length p) L.length
  have := hL.pos
  exact ⟨i, by omega, h⟩
/-- Some stretch is overloaded if somebody is late. -/
theorem over_some {L : List J4} (hL : JobsOk L) (h : 0 < delN L (planN false L)) : ∃ a b : Nat, a ≤ b ∧ a ≤ 100 ∧ b ≤ 200 ∧ (b : Int) - a < loadN L a b := by
  obtain ⟨x, hx, hd⟩ := delN_at hL (planN false L)
  obtain ⟨a, ha, hb⟩ := edf hL x hx
  have hxb := hL.at_ x hx
  by_cases hab : (a : Int) ≤ (L.getD x j0).d
  · refine ⟨a, (L.getD x j0).d.toNat, by omega, by omega, by omega, ?_⟩
    rw [show (((L.getD x j0).d.toNat : Nat) : Int) = (L.getD x j0).d by omega]
    omega
  · refine ⟨a, a, Nat.le_refl _, by omega, by omega, ?_⟩
    have h1 := sumS_ge (S := inStretch L a a) (f := fun i => (L.getD i j0).t) (n := L.length) (fun i hi _ => by have := hL.at_ i hi; omega) L.length (Nat.le_refl _) x hx (decide_eq_true ⟨ha, by omega⟩)
    have h2 : (L.getD x j0).t ≤ loadN L a a := h1
    omega
theorem load_none {L : List J4} (hL : JobsOk L) {a b : Int} (h : 100 < a) : loadN L a b = 0 := by
  have h1 := sumS_congr (S := inStretch L a b) (T := fun _ => false) (f := fun i => (L.getD i j0).t) (g := fun _ => 0) (n := L.length) (fun i hi => decide_eq_false (fun h2 => by have := hL.at_ i hi; omega)) (fun i hi hS => by
    have h2 : a ≤ (L.getD i j0).r ∧ (L.getD i j0).d ≤ b := of_decide_eq_true hS
    have := hL.at_ i hi
    omega) L.length (Nat.le_refl _)
  rw [loadN, h1]
  generalize L.length = n
  induction n with
  | zero => rfl
  | succ n ih => rw [sumS, ih]; rfl
def loadTo (L : List J4) (a b : Int) (k : Nat) : Int := sumS (inStretch L a b) (fun i => (L.getD i j0).t) k
theorem loadTo_bd {L : List J4} (hL : JobsOk L) (a b : Int) : ∀ k, k ≤ L.length → 0 ≤ loadTo L a b k ∧ loadTo L a b k ≤ 20 * k
  | 0, _ => by simp [loadTo, sumS]
  | k + 1, hk => by
    have h1 := loadTo_bd hL a b k (by omega)
    have h2 := hL.at_ k (by omega)
    unfold loadTo at h1 ⊢
    rw [sumS]
    split
    · omega
    · omega
theorem loadTo_yes {L : List J4} {a b : Int} {k : Nat} {t r d u : Int} (h : L.getD k j0 = ⟨t, r, d, u⟩) (h1 : a ≤ r) (h2 : d ≤ b) : loadTo L a b (k + 1) = loadTo L a b k + t := by
  unfold loadTo
  rw [sumS, if_pos (show inStretch L a b k = true from decide_eq_true ⟨by rw [h]; exact h1, by rw [h]; exact h2⟩), h]
theorem loadTo_no {L : List J4} {a b : Int} {k : Nat} {t r d u : Int} (h : L.getD k j0 = ⟨t, r, d, u⟩) (h1 : ¬ (a ≤ r ∧ d ≤ b)) : loadTo L a b (k + 1) = loadTo L a b k := by
  unfold loadTo
  rw [sumS, if_neg (show ¬ inStretch L a b k = true from fun h2 => h1 (by have := of_decide_eq_true h2; rw [h] at this; exact this))]; omega
/-- An array of two ints, and an error. -/
def OvRes (L : List J4) (w : World) (e : Ending) (w' : World) : Prop := ∃ a b, OvP L a b ∧ e = .returned (.tuple #[.agg #[.int .i64 a, .int .i64 b], .int .i64 0]) ∧ Below w.heap.size w w'
end Go.Proofs.Ytiadineakhcclaa
