/-
  Single peaks: the middle one of the first places beats all others, and nobody gains by a lie that keeps the axis.
-/
import Derived.Test.YtejijddfepgnkaaStrPlain
namespace Go.Proofs.Ytejijddfepgnkaa
open Go.RowKit
set_option linter.unusedVariables false
set_option linter.unusedSimpArgs false

theorem least_of {P : Nat → Prop} : ∀ n, P n → ∃ m, m ≤ n ∧ P m ∧ ∀ k, k < m → ¬ P k := by
  intro n
  induction n using Nat.strongRecOn with
  | _ n ih =>
    intro h
    by_cases h1 : ∃ k, k < n ∧ P k
    · obtain ⟨k, hk, hp⟩ := h1
      obtain ⟨m, h2, h3, h4⟩ := ih k hk hp
      exact ⟨m, by omega, h3, h4⟩
    · exact ⟨n, Nat.le_refl _, h, fun k hk hp => h1 ⟨k, hk, hp⟩⟩
def bi (p : Bool) : Nat := if p then 1 else 0
theorem countP_put {α : Type} (p : α → Bool) (x d : α) : ∀ (W : List α) (i : Nat), i < W.length → (W.set i x).countP p + bi (p (W.getD i d)) = W.countP p + bi (p x)
  | [], i, h => absurd h (by simp)
  | y :: W, 0, _ => by
    simp only [List.set_cons_zero, List.countP_cons, List.getD_eq_getElem?_getD, List.getElem?_cons_zero, Option.getD_some, bi]
    omega
  | y :: W, i + 1, h => by
    have := countP_put p x d W i (by simpa using h)
    simp only [List.set_cons_succ, List.countP_cons, List.getD_eq_getElem?_getD, List.getElem?_cons_succ] at this ⊢
    omega
theorem bi_le (p : Bool) : bi p ≤ 1 := by unfold bi; split <;> omega
theorem countP_two {α : Type} (f : α → Nat) (m : Nat) (hm : 1 ≤ m) : ∀ W : List α, (W.countP fun b => decide (m ≤ f b)) + (W.countP fun b => decide (f b ≤ m - 1)) = W.length
  | [] => rfl
  | y :: W => by
    have := countP_two f m hm W
    simp only [List.countP_cons, List.length_cons, decide_eq_true_eq]
    split <;> split <;> omega

/-- The place on the axis of the one whom a ballot likes best. -/
def pk (o b : List Nat) : Nat := place o (b.getD 0 0)
/-- The axis is one for the ballot. -/
def Pkd (o b : List Nat) (n : Nat) : Prop := ∀ i j k, i < j → j < k → k < n → ¬ (place b (o.getD i 0) < place b (o.getD j 0) ∧ place b (o.getD k 0) < place b (o.getD j 0))
section
variable {o b : List Nat} {n : Nat}
theorem place_zero (hb : Ord b n) {y : Nat} (hy : y < n) (h : place b y = 0) : y = b.getD 0 0 := by
  have := (place_lt ((hb.mem y).2 hy)).2
  rw [h] at this
  exact this.symm
theorem pk_spec (ho : Ord o n) (hb : Ord b n) (hn : 1 ≤ n) : pk o b < n ∧ o.getD (pk o b) 0 = b.getD 0 0 := by
  have h0 : b.getD 0 0 < n := hb.getD_lt hn
  obtain ⟨h1, h2⟩ := place_lt ((ho.mem _).2 h0)
  rw [ho.len] at h1
  exact ⟨h1, h2⟩
theorem top_zero (hb : Ord b n) (hn : 1 ≤ n) : place b (b.getD 0 0) = 0 := by
  have := place_first (l := b) (g := b.getD 0 0) (i := 0) (by rw [hb.len]; omega) rfl
  omega
theorem pos_place (ho : Ord o n) (hb : Ord b n) (hn : 1 ≤ n) {i : Nat} (hi : i < n) (hne : i ≠ pk o b) : 0 < place b (o.getD i 0) := by
  rcases Nat.eq_zero_or_pos (place b (o.getD i 0)) with h | h
  · obtain ⟨h1, h2⟩ := pk_spec ho hb hn
    have h3 := place_zero hb (ho.getD_lt hi) h
    exact absurd (ho.inj i _ hi h1 (by rw [h2, h3])) hne
  · exact h
theorem place_ne (ho : Ord o n) (hb : Ord b n) {i j : Nat} (hi : i < n) (hj : j < n) (hne : i ≠ j) : place b (o.getD i 0) ≠ place b (o.getD j 0) := fun h =>
  hne (ho.inj i j hi hj (place_inj hb (ho.getD_lt hi) (ho.getD_lt hj) h))
theorem peak_right (ho : Ord o n) (hb : Ord b n) (h : Pkd o b n) {i j : Nat} (hp : pk o b ≤ i) (hij : i < j) (hj : j < n) : place b (o.getD i 0) < place b (o.getD j 0) := by
  have hn : 1 ≤ n := by omega
  obtain ⟨h1, h2⟩ := pk_spec ho hb hn
  rcases (by omega : pk o b = i ∨ pk o b < i) with e | hlt
  · rw [← e, h2, top_zero hb hn]
    exact pos_place ho hb hn hj (by omega)
  · have h3 := h (pk o b) i j hlt hij hj
    rw [h2, top_zero hb hn] at h3
    have h4 := pos_place ho hb hn (i := i) (by omega) (by omega)
    have h5 := place_ne ho hb (i := i) (j := j) (by omega) hj (by omega)
    omega
theorem peak_left (ho : Ord o n) (hb : Ord b n) (h : Pkd o b n) {i j : Nat} (hp : i ≤ pk o b) (hij : j < i) (hi : i < n) : place b (o.getD i 0) < place b (o.getD j 0) := by
  have hn : 1 ≤ n := by omega
  obtain ⟨h1, h2⟩ := pk_spec ho hb hn
  rcases (by omega : pk o b = i ∨ i < pk o b) with e | hlt
  · rw [← e, h2, top_zero hb hn]
    exact pos_place ho hb hn (i := j) (by omega) (by omega)
  · have h3 := h j i (pk o b) hij hlt h1
    rw [h2, top_zero hb hn] at h3
    have h4 := pos_place ho hb hn (i := i) hi (by omega)
    have h5 := place_ne ho hb (i := i) (j := j) hi (by omega) (by omega)
    omega
end

/-- How many first places lie at m or before. -/
def leC (W : List (List Nat)) (o : List Nat) (m : Nat) : Nat := W.countP fun b => decide (pk o b ≤ m)
theorem leC_mono (W : List (List Nat)) (o : List Nat) {a b : Nat} (h : a ≤ b) : leC W o a ≤ leC W o b := by
  refine List.countP_mono_left fun x _ hx => ?_
  rw [decide_eq_true_eq] at hx ⊢
  omega
/-- m is the middle of the first places. -/
structure Mid (W : List (List Nat)) (o : List Nat) (n m : Nat) : Prop where
  lt : m < n
  hi : W.length < 2 * leC W o m
  lo : ∀ k, k < m → ¬ W.length < 2 * leC W o k
theorem mid_of {W : List (List Nat)} {v n : Nat} {o : List Nat} (hW : BOk W v n) (ho : Ord o n) : ∃ m, Mid W o n m := by
  have hrow : ∀ b ∈ W, Ord b n := fun b hb => by
    obtain ⟨i, hi, rfl⟩ := List.getElem_of_mem hb
    have := hW.rows i (by rw [← hW.len]; exact hi)
    rwa [List.getD_eq_getElem?_getD, List.getElem?_eq_getElem hi] at this
  have hall : leC W o (n - 1) = W.length := by
    unfold leC
    rw [List.countP_eq_length]
    intro b hb
    have := (pk_spec ho (hrow b hb) hW.npos).1
    rw [decide_eq_true_eq]; omega
  obtain ⟨m, h1, h2, h3⟩ := least_of (P := fun m => W.length < 2 * leC W o m) (n - 1) (by
    show W.length < 2 * leC W o (n - 1)
    rw [hall, hW.len]; have := hW.pos; omega)
  exact ⟨m, by have := hW.npos; omega, h2, h3⟩
theorem mid_beats {W : List (List Nat)} {v n m : Nat} {o : List Nat} (hW : BOk W v n) (hodd : v % 2 = 1) (ho : Ord o n) (hP : ∀ i, i < v → Pkd o (W.getD i []) n) (hm : Mid W o n m) : Beats W n (o.getD m 0) := by
  have hrow : ∀ b ∈ W, Ord b n ∧ Pkd o b n := fun b hb => by
    obtain ⟨i, hi, rfl⟩ := List.getElem_of_mem hb
    have h1 := hW.rows i (by rw [← hW.len]; exact hi)
    have h2 := hP i (by rw [← hW.len]; exact hi)
    rw [List.getD_eq_getElem?_getD, List.getElem?_eq_getElem hi] at h1 h2
    exact ⟨h1, h2⟩
  have hlen := hW.len
  intro y hy
  obtain ⟨h1, h2⟩ := place_lt ((ho.mem y).2 hy)
  rw [ho.len] at h1
  obtain ⟨d, hd⟩ : ∃ d, place o y = d := ⟨_, rfl⟩
  rw [hd] at h1 h2
  subst h2
  by_cases e : d = m
  · subst e; exact .inl rfl
  · refine .inr ?_
    have hne : o.getD m 0 ≠ o.getD d 0 := fun h => e (ho.inj m d hm.lt h1 h).symm
    obtain ⟨g1, g2⟩ := rdC_marg (fun l hl => (hrow l hl).1) (ho.getD_lt hm.lt) (ho.getD_lt h1) hne
    have hmaj : W.length < 2 * rdC W (o.getD d 0) (o.getD m 0) := by
      rcases (by omega : m < d ∨ d < m) with hlt | hlt
      · have : leC W o m ≤ rdC W (o.getD d 0) (o.getD m 0) := by
          refine List.countP_mono_left fun b hb hx => ?_
          rw [decide_eq_true_eq] at hx ⊢
          exact peak_right ho (hrow b hb).1 (hrow b hb).2 hx hlt h1
        have := hm.hi
        omega
      · have h3 := countP_two (pk o) m (by omega) W
        have h4 := hm.lo (m - 1) (by omega)
        have : (W.countP fun b => decide (m ≤ pk o b)) ≤ rdC W (o.getD d 0) (o.getD m 0) := by
          refine List.countP_mono_left fun b hb hx => ?_
          rw [decide_eq_true_eq] at hx ⊢
          exact peak_left ho (hrow b hb).1 (hrow b hb).2 hx hlt hm.lt
        unfold leC at h4
        omega
    omega
theorem mid_wins {W : List (List Nat)} {v n m : Nat} {o : List Nat} (hW : BOk W v n) (hodd : v % 2 = 1) (ho : Ord o n) (hP : ∀ i, i < v → Pkd o (W.getD i []) n) (hm : Mid W o n m) : pathsN (widM n (margM W)) n = (o.getD m 0 : Nat) :=
  beats_paths hW (ho.getD_lt hm.lt) (mid_beats hW hodd ho hP hm)
/-- Nobody gains by a ballot that keeps the axis. -/
theorem honest_peak {W : List (List Nat)} {v n i : Nat} {o b' : List Nat} (hW : BOk W v n) (hW' : BOk (W.set i b') v n) (hodd : v % 2 = 1) (hi : i < v) (ho : Ord o n) (hP : ∀ j, j < v → Pkd o (W.getD j []) n) (hb' : Pkd o b' n) :
    ∃ x x' : Nat, pathsN (widM n (margM W)) n = x ∧ pathsN (widM n (margM (W.set i b'))) n = x' ∧ x < n ∧ x' < n ∧ place (W.getD i []) x ≤ place (W.getD i []) x' := by
  have hlen := hW.len
  obtain ⟨m, hm⟩ := mid_of hW ho
  obtain ⟨m', hm'⟩ := mid_of hW' ho
  have hP' : ∀ j, j < v → Pkd o ((W.set i b').getD j []) n := fun j hj => by
    by_cases e : i = j
    · subst e
      rw [List.getD_eq_getElem?_getD, List.getElem?_set_self (by omega)]
      exact hb'
    · rw [List.getD_eq_getElem?_getD, List.getElem?_set_ne e, ← List.getD_eq_getElem?_getD]
      exact hP j hj
  refine ⟨_, _, mid_wins hW hodd ho hP hm, mid_wins hW' hodd ho hP' hm', ho.getD_lt hm.lt, ho.getD_lt hm'.lt, ?_⟩
  have hOi := hW.rows i hi
  have hPi := hP i hi
  have hc : ∀ k, leC (W.set i b') o k + bi (decide (pk o (W.getD i []) ≤ k)) = leC W o k + bi (decide (pk o b' ≤ k)) := fun k => countP_put (fun b => decide (pk o b ≤ k)) b' [] W i (by omega)
  have hl' : (W.set i b').length = W.length := by rw [List.length_set]
  rcases Nat.lt_trichotomy (pk o (W.getD i [])) m with hlt | heq | hgt
  · -- the voter stands left of the middle: it does not move to the left
    have hmm : m ≤ m' := by
      refine Classical.byContradiction fun h => ?_
      have h1 := hm'.hi
      have h2 := leC_mono (W.set i b') o (show m' ≤ m - 1 by omega)
      have h3 := hc (m - 1)
      have h4 := hm.lo (m - 1) (by omega)
      have h5 : bi (decide (pk o (W.getD i []) ≤ m - 1)) = 1 := by rw [decide_eq_true (by omega)]; rfl
      have h6 := bi_le (decide (pk o b' ≤ m - 1))
      omega
    rcases (by omega : m = m' ∨ m < m') with e | h
    · rw [e]; exact Nat.le_refl _
    · exact Nat.le_of_lt (peak_right ho hOi hPi (by omega) h hm'.lt)
  · have h1 := (pk_spec ho hOi hW.npos).2
    rw [heq] at h1
    rw [h1, top_zero hOi hW.npos]
    exact Nat.zero_le _
  · have hmm : m' ≤ m := by
      refine Classical.byContradiction fun h => ?_
      have h1 := hm'.lo m (by omega)
      have h2 := hm.hi
      have h3 := hc m
      have h5 : bi (decide (pk o (W.getD i []) ≤ m)) = 0 := by rw [decide_eq_false (by omega)]; rfl
      omega
    rcases (by omega : m = m' ∨ m' < m) with e | h
    · rw [e]; exact Nat.le_refl _
    · exact Nat.le_of_lt (peak_left ho hOi hPi (by omega) h hm.lt)
end Go.Proofs.Ytejijddfepgnkaa
