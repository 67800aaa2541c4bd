/-
  dates (plain): a set that fits, along any sorted row and at once.
-/
import Derived.Test.YtiadineakhcclaaDByDue
import Derived.Test.YtiadineakhcclaaDSrpt
namespace Go.Proofs.Ytiadineakhcclaa
open Go.RowKit
set_option linter.unusedVariables false
set_option linter.unusedSimpArgs false

/-- When the first k of the row s are done, those of S alone. -/
def nowF (L : List J4) (S : Nat) (s : Nat → Nat) : Nat → Int
  | 0 => 0
  | k + 1 => if S.testBit (s k) then nowF L S s k + (L.getD (s k) j0).t else nowF L S s k
/-- The first k of the row s are on time, those of S alone. -/
def FitS (L : List J4) (S : Nat) (s : Nat → Nat) (k : Nat) : Prop := ∀ a, a < k → S.testBit (s a) = true → nowF L S s (a + 1) ≤ (L.getD (s a) j0).d
theorem nowF_bd {L : List J4} (hL : JobsOk L) {S : Nat} {s : Nat → Nat} : ∀ k, (∀ a, a < k → s a < L.length) → 0 ≤ nowF L S s k ∧ nowF L S s k ≤ 20 * k
  | 0, _ => ⟨Int.le_refl _, by simp [nowF]⟩
  | k + 1, h => by
      obtain ⟨h1, h2⟩ := nowF_bd (S := S) hL k fun a ha => h a (by omega)
      have h3 := hL.at_ (s k) (h k (by omega))
      unfold nowF
      split
      · constructor <;> push_cast <;> omega
      · constructor <;> push_cast <;> omega
/-- a is not behind b. -/
def leK (key : Nat → Int) (a b : Nat) : Prop := ltK key a b ∨ a = b
instance (key : Nat → Int) (a b : Nat) : Decidable (ltK key a b) := by unfold ltK; infer_instance
instance (key : Nat → Int) (a b : Nat) : Decidable (leK key a b) := by unfold leK; infer_instance
def due (L : List J4) (a : Nat) : Int := (L.getD a j0).d
/-- The work of S up to b. -/
def workK (L : List J4) (S b : Nat) : Int := sumF (fun j => if S.testBit j = true ∧ leK (due L) j b then (L.getD j j0).t else 0) L.length
def fitB (L : List J4) (S : Nat) : Bool := decide (∀ i, i < L.length → S.testBit i = true → workK L S i ≤ (L.getD i j0).d)

theorem foldr_perm {l l' : List Int} (h : l.Perm l') : l.foldr (· + ·) 0 = l'.foldr (· + ·) 0 := by
  induction h with
  | nil => rfl
  | cons x _ ih => simp [ih]
  | swap x y l => simp; omega
  | trans _ _ h1 h2 => rw [h1, h2]
theorem Sorted0.perm {key : Nat → Int} {s : Nat → Nat} {n : Nat} (h : Sorted0 key id s n n) : ((List.range n).map s).Perm (List.range n) := by
  have hinj : ∀ a b, a < n → b < n → s a = s b → a = b := fun a b ha hb e => by
    rcases Nat.lt_trichotomy a b with h1 | h1 | h1
    · have := h.sorted a b h1 hb; unfold ltK at this; rw [e] at this; omega
    · exact h1
    · have := h.sorted b a h1 ha; unfold ltK at this; rw [e] at this; omega
  have hnd : ((List.range n).map s).Nodup := by
    rw [List.nodup_iff_pairwise_ne, List.pairwise_map]
    refine List.Pairwise.imp_of_mem ?_ List.nodup_range
    intro a b ha hb hne e
    exact hne (hinj a b (List.mem_range.1 ha) (List.mem_range.1 hb) e)
  have hsub : ((List.range n).map s) ⊆ List.range n := fun x hx => by
    obtain ⟨a, ha, rfl⟩ := List.mem_map.1 hx
    obtain ⟨m, hm, e⟩ := h.low a (List.mem_range.1 ha)
    rw [e]; exact List.mem_range.2 hm
  refine (List.perm_ext_iff_of_nodup hnd List.nodup_range).2 fun x => ⟨fun hx => hsub hx, fun hx => ?_⟩
  rcases Classical.em (x ∈ (List.range n).map s) with h1 | h1
  · exact h1
  · have := nodup_le n (x :: (List.range n).map s) (List.nodup_cons.2 ⟨h1, hnd⟩) (fun y hy => by
      rcases List.mem_cons.1 hy with rfl | hy
      · exact List.mem_range.1 hx
      · exact List.mem_range.1 (hsub hy))
    simp at this
    omega
theorem foldr_sumF (f : Nat → Int) : ∀ n, ((List.range n).map f).foldr (· + ·) 0 = sumF f n
  | 0 => rfl
  | n + 1 => by
      have hsn : ∀ (l : List Int) (x : Int), (l ++ [x]).foldr (· + ·) 0 = l.foldr (· + ·) 0 + x := fun l x => by
        induction l with
        | nil => simp
        | cons y l ih => simp at ih ⊢; rw [ih]; omega
      rw [List.range_succ, List.map_append, List.map_singleton, hsn, foldr_sumF f n, sumF]
theorem nowF_work {L : List J4} {S : Nat} {s : Nat → Nat} (h : Sorted0 (due L) id s L.length L.length) {a : Nat} (ha : a < L.length) (hb : S.testBit (s a) = true) : nowF L S s (a + 1) = workK L S (s a) := by
  have hcut : ∀ k, k ≤ L.length → ((List.range k).map fun j => if S.testBit (s j) = true ∧ leK (due L) (s j) (s a) then (L.getD (s j) j0).t else 0).foldr (· + ·) 0 = nowF L S s (min k (a + 1)) := by
    have hsn : ∀ (l : List Int) (x : Int), (l ++ [x]).foldr (· + ·) 0 = l.foldr (· + ·) 0 + x := fun l x => by
      induction l with
      | nil => simp
      | cons y l ih => simp at ih ⊢; rw [ih]; omega
    intro k
    induction k with
    | zero => intro _; rw [Nat.zero_min]; rfl
    | succ k ih =>
      intro hk
      rw [List.range_succ, List.map_append, List.map_singleton, hsn, ih (by omega)]
      by_cases hka : k ≤ a
      · have hle : leK (due L) (s k) (s a) := by
          rcases Nat.lt_or_ge k a with h1 | h1
          · exact .inl (h.sorted k a h1 ha)
          · exact .inr (by rw [show k = a by omega])
        rw [show min k (a + 1) = k by omega, show min (k + 1) (a + 1) = k + 1 by omega]
        show _ = if S.testBit (s k) = true then nowF L S s k + (L.getD (s k) j0).t else nowF L S s k
        by_cases hbk : S.testBit (s k) = true
        · rw [if_pos ⟨hbk, hle⟩, if_pos hbk]
        · rw [if_neg (fun h => hbk h.1), if_neg hbk]; omega
      · have hnl : ¬ leK (due L) (s k) (s a) := fun hle => by
          have h1 := h.sorted a k (by omega) (by omega)
          unfold leK ltK at hle
          unfold ltK at h1
          rcases hle with h2 | h2
          · omega
          · rw [h2] at h1; omega
        rw [if_neg (fun h => hnl h.2), show min k (a + 1) = a + 1 by omega, show min (k + 1) (a + 1) = a + 1 by omega]; omega
  have h1 := hcut L.length (Nat.le_refl _)
  rw [show min L.length (a + 1) = a + 1 by omega] at h1
  rw [← h1]
  unfold workK
  rw [← foldr_sumF]
  have h2 := (h.perm.map fun j => if S.testBit j = true ∧ leK (due L) j (s a) then (L.getD j j0).t else 0)
  rw [List.map_map] at h2
  exact foldr_perm h2
theorem fitS_fitB {L : List J4} {S : Nat} {s : Nat → Nat} (h : Sorted0 (due L) id s L.length L.length) : FitS L S s L.length ↔ fitB L S = true := by
  rw [fitB, decide_eq_true_iff]
  constructor
  · intro hf i hi hb
    have hm : i ∈ (List.range L.length).map s := h.perm.mem_iff.2 (List.mem_range.2 hi)
    obtain ⟨a, ha, rfl⟩ := List.mem_map.1 hm
    have ha := List.mem_range.1 ha
    rw [← nowF_work h ha hb]
    exact hf a ha hb
  · intro hf a ha hb
    rw [nowF_work h ha hb]
    obtain ⟨m, hm, e⟩ := h.low a ha
    exact hf (s a) (by rw [e]; exact hm) hb
end Go.Proofs.Ytiadineakhcclaa
