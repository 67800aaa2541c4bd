/-
  Plain: who is late in the plan by Due shows an overloaded stretch; what a whole plan can do in a stretch.
-/
import Derived.Test.YtiadineakhcclaaDWhole
namespace Go.Proofs.Ytiadineakhcclaa
set_option linter.unusedVariables false
set_option linter.unusedSimpArgs false

/-! Sums over some of the jobs. -/
def sumS (S : Nat → Bool) (f : Nat → Int) : Nat → Int
  | 0 => 0
  | k + 1 => sumS S f k + if S k then f k else 0
theorem sumS_le {S : Nat → Bool} {f g : Nat → Int} {n : Nat} (h : ∀ i, i < n → S i = true → f i ≤ g i) : ∀ k, k ≤ n → sumS S f k ≤ sumS S g k
  | 0, _ => Int.le_refl _
  | k + 1, hk => by
    rw [sumS, sumS]
    have h1 := sumS_le h k (by omega)
    cases hS : S k with
    | false => simp; omega
    | true => have := h k (by omega) hS; simp; omega
theorem sumS_congr {S T : Nat → Bool} {f g : Nat → Int} {n : Nat} (hS : ∀ i, i < n → S i = T i) (h : ∀ i, i < n → S i = true → f i = g i) : ∀ k, k ≤ n → sumS S f k = sumS T g k
  | 0, _ => rfl
  | k + 1, hk => by
    rw [sumS, sumS, sumS_congr hS h k (by omega), ← hS k (by omega)]
    cases hk2 : S k with
    | false => rfl
    | true => rw [h k (by omega) hk2]
theorem sumS_nonneg {S : Nat → Bool} {f : Nat → Int} {n : Nat} (h : ∀ i, i < n → S i = true → 0 ≤ f i) : ∀ k, k ≤ n → 0 ≤ sumS S f k
  | 0, _ => Int.le_refl _
  | k + 1, hk => by
    rw [sumS]
    have h1 := sumS_nonneg h k (by omega)
    cases hS : S k with
    | false => simp; omega
    | true => have := h k (by omega) hS; simp; omega
theorem sumS_ge {S : Nat → Bool} {f : Nat → Int} {n : Nat} (h : ∀ i, i < n → S i = true → 0 ≤ f i) : ∀ k, k ≤ n → ∀ i, i < k → S i = true → f i ≤ sumS S f k
  | 0, _, i, hi, _ => absurd hi (by omega)
  | k + 1, hk, i, hi, hS => by
    rw [sumS]
    have h0 := sumS_nonneg h k (by omega)
    by_cases e : i = k
    · subst e; rw [hS]; simp; omega
    · have h1 := sumS_ge h k (by omega) i (by omega) hS
      cases hS2 : S k with
      | false => simp; omega
      | true => have := h k (by omega) hS2; simp; omega
/-- A function that differs at one place. -/
theorem sumS_one {S : Nat → Bool} {f g : Nat → Int} {i : Nat} (h : ∀ j, j ≠ i → f j = g j) : ∀ k, sumS S f k = sumS S g k + if i < k ∧ S i = true then f i - g i else 0
  | 0 => by simp [sumS]
  | k + 1 => by
    rw [sumS, sumS, sumS_one h k]
    by_cases e : k = i
    · subst e
      rw [if_neg (by omega)]
      cases hS : S k with
      | false => simp
      | true => simp; omega
    · rw [h k e]
      have e2 : (i < k + 1 ∧ S i = true) = (i < k ∧ S i = true) := by
        rw [eq_iff_iff]
        exact ⟨fun h3 => ⟨by omega, h3.2⟩, fun h3 => ⟨by omega, h3.2⟩⟩
      simp only [e2]
      omega

/-! The plan, unit by unit. -/
def leftAt (sh : Bool) (L : List J4) (k i : Nat) : Int := (runP sh L k).1.getD i 0
def schedAt (sh : Bool) (L : List J4) (k : Nat) : Int := pk sh L (runP sh L k).1 k
theorem left_zero (sh : Bool) (L : List J4) (i : Nat) : leftAt sh L 0 i = (L.getD i j0).t := by rw [leftAt, runP]; exact timesOf_getD L i
theorem left_idle {sh : Bool} {L : List J4} {k : Nat} (h : schedAt sh L k = -1) (i : Nat) : leftAt sh L (k + 1) i = leftAt sh L k i := by
  have h' : pk sh L (runP sh L k).1 k = -1 := h
  rw [leftAt, runP, stepP, h', if_pos (by omega)]; rfl
theorem left_work {sh : Bool} {L : List J4} (hL : JobsOk L) {k j : Nat} (h : schedAt sh L k = (j : Int)) (hj : j < L.length) (i : Nat) : leftAt sh L (k + 1) i = if i = j then leftAt sh L k j - 1 else leftAt sh L k i := by
  have h' : pk sh L (runP sh L k).1 k = (j : Int) := h
  rw [leftAt, runP, stepP, h', if_neg (by omega), Int.toNat_natCast]
  show (List.set _ _ _).getD i 0 = _
  rw [getD_set_i _ _ _ _ _ (by rw [(runP_ok sh hL k).len]; exact hj)]
  rfl
theorem sched_cases (sh : Bool) (L : List J4) (k : Nat) : (schedAt sh L k = -1 ∧ ∀ i, i < L.length → ¬ ((L.getD i j0).r ≤ k ∧ 0 < leftAt sh L k i)) ∨
    ∃ j, j < L.length ∧ schedAt sh L k = (j : Int) ∧ (L.getD j j0).r ≤ k ∧ 0 < leftAt sh L k j ∧ ∀ i, i < L.length → (L.getD i j0).r ≤ k → 0 < leftAt sh L k i → keyP sh L (runP sh L k).1 j ≤ keyP sh L (runP sh L k).1 i := by
  rcases pk_spec sh L (runP sh L k).1 k with ⟨e, h⟩ | ⟨j, hj, e, hav, h⟩
  · exact .inl ⟨e, fun i hi h2 => h i hi h2⟩
  · exact .inr ⟨j, hj, e, hav.1, hav.2, fun i hi h1 h2 => (h i hi ⟨h1, h2⟩).1⟩
theorem left_le_succ {sh : Bool} {L : List J4} (hL : JobsOk L) (k i : Nat) : leftAt sh L (k + 1) i ≤ leftAt sh L k i := by
  rcases sched_cases sh L k with ⟨e, _⟩ | ⟨j, hj, e, _⟩
  · rw [left_idle e]; exact Int.le_refl _
  · rw [left_work hL e hj]; split
    · rename_i h; subst h; omega
    · exact Int.le_refl _
theorem left_mono {sh : Bool} {L : List J4} (hL : JobsOk L) {k m : Nat} (h : k ≤ m) (i : Nat) : leftAt sh L m i ≤ leftAt sh L k i := by
  obtain ⟨d, rfl⟩ : ∃ d, m = k + d := ⟨m - k, by omega⟩
  induction d with
  | zero => exact Int.le_refl _
  | succ d ih => have h1 := ih (by omega); have h2 := left_le_succ (sh := sh) hL (k + d) i; show leftAt sh L (k + d + 1) i ≤ _; omega
theorem left_bd {sh : Bool} {L : List J4} (hL : JobsOk L) (k i : Nat) (hi : i < L.length) : 0 ≤ leftAt sh L k i ∧ leftAt sh L k i ≤ (L.getD i j0).t := (runP_ok sh hL k).bd i hi
theorem left_end {sh : Bool} {L : List J4} (hL : JobsOk L) {k : Nat} (hk : 300 ≤ k) (i : Nat) (hi : i < L.length) : leftAt sh L k i = 0 := by
  have h1 := runP_300 (sh := sh) hL hk i (by rw [(runP_ok sh hL k).len]; exact hi)
  have h2 := left_bd (sh := sh) hL k i hi
  have h3 : leftAt sh L k i ≤ 0 := h1
  omega

/-! The ends. -/
theorem finTo_app (n : Nat) (p q : List P3) : ∀ k, k ≤ p.length → finTo n (p ++ q) k = finTo n p k
  | 0, _ => rfl
  | k + 1, hk => by
    have e : (p ++ q).getD k p0 = p.getD k p0 := by simp [List.getD_eq_getElem?_getD, List.getElem?_append_left (show k < p.length by omega)]
    rw [finTo, finTo, finTo_app n p q k (by omega), e]
theorem finTo_set (n : Nat) (p : List P3) (x : P3) (i : Nat) : ∀ k, k ≤ i → finTo n (p.set i x) k = finTo n p k
  | 0, _ => rfl
  | k + 1, hk => by
    have e : (p.set i x).getD k p0 = p.getD k p0 := by
      rw [List.getD_eq_getElem?_getD, List.getElem?_set, if_neg (by omega), List.getD_eq_getElem?_getD]
    rw [finTo, finTo, finTo_set n p x i k (by omega), e]
theorem fin_addP (n : Nat) (out : List P3) (j : Nat) (a : Int) : finN n (addP out (j : Int) a) = (finN n out).set j (a + 1) := by
  rw [addP]
  split
  · rename_i hc
    obtain ⟨m, hm⟩ : ∃ m, out.length = m + 1 := ⟨out.length - 1, by omega⟩
    rw [hm] at hc ⊢
    have hc2 := hc.2
    rw [show m + 1 - 1 = m by omega] at hc2 ⊢
    rw [finN, List.length_set, hm, finTo, finTo_set _ _ _ _ _ (Nat.le_refl _), getD_set_i _ _ _ _ _ (by omega), if_pos rfl, finN, hm, finTo]
    show (finTo n out m).set (out.getD m p0).job.toNat (a + 1) = _
    rw [hc2.1, Int.toNat_natCast, List.set_set]
  · rw [finN, List.length_append, List.length_singleton, finTo, finTo_app _ _ _ _ (Nat.le_refl _)]
    have e : (out ++ [(⟨(j : Int), a, a + 1⟩ : P3)]).getD out.length p0 = ⟨(j : Int), a, a + 1⟩ := by simp [List.getD_eq_getElem?_getD]
    rw [e]
    show (finTo n out out.length).set ((j : Int).toNat) (a + 1) = _
    rw [Int.toNat_natCast]; rfl
def endAt (sh : Bool) (L : List J4) (k i : Nat) : Int := (finN L.length (runP sh L k).2).getD i 0
theorem end_idle {sh : Bool} {L : List J4} {k : Nat} (h : schedAt sh L k = -1) (i : Nat) : endAt sh L (k + 1) i = endAt sh L k i := by
  have h' : pk sh L (runP sh L k).1 k = -1 := h
  rw [endAt, runP, stepP, h', if_pos (by omega)]; rfl
theorem end_work {sh : Bool} {L : List J4} (hL : JobsOk L) {k j : Nat} (h : schedAt sh L k = (j : Int)) (hj : j < L.length) (i : Nat) : endAt sh L (k + 1) i = if i = j then (k : Int) + 1 else endAt sh L k i := by
  have h' : pk sh L (runP sh L k).1 k = (j : Int) := h
  rw [endAt, runP, stepP, h', if_neg (by omega)]
  show (finN L.length (addP (runP sh L k).2 (j : Int) k)).getD i 0 = _
  rw [fin_addP, getD_set_i _ _ _ _ _ (by rw [finN, finTo_len]; exact hj)]
  rfl
/-- A job's end is behind its last unit. -/
theorem end_last {sh : Bool} {L : List J4} (hL : JobsOk L) (i : Nat) (hi : i < L.length) : ∀ k, (leftAt sh L k i = (L.getD i j0).t ∧ endAt sh L k i = 0) ∨
    ∃ T, T < k ∧ schedAt sh L T = (i : Int) ∧ endAt sh L k i = (T : Int) + 1 ∧ leftAt sh L k i = leftAt sh L (T + 1) i
  | 0 => .inl ⟨left_zero sh L i, by
      rw [endAt, runP, finN]; show (finTo L.length [] 0).getD i 0 = 0
      rw [finTo, List.getD_eq_getElem?_getD, List.getElem?_replicate, if_pos hi]; rfl⟩
  | k + 1 => by
    rcases sched_cases sh L k with ⟨e, _⟩ | ⟨j, hj, e, _⟩
    · rcases end_last hL i hi k with ⟨h1, h2⟩ | ⟨T, hT, h1, h2, h3⟩
      · exact .inl ⟨by rw [left_idle e]; exact h1, by rw [end_idle e]; exact h2⟩
      · exact .inr ⟨T, by omega, h1, by rw [end_idle e]; exact h2, by rw [left_idle e]; exact h3⟩
    · by_cases hij : i = j
      · subst hij
        exact .inr ⟨k, by omega, e, by rw [end_work hL e hj, if_pos rfl], rfl⟩
      · rcases end_last hL i hi k with ⟨h1, h2⟩ | ⟨T, hT, h1, h2, h3⟩
        · exact .inl ⟨by rw [left_work hL e hj, if_neg hij]; exact h1, by rw [end_work hL e hj, if_neg hij]; exact h2⟩
        · exact .inr ⟨T, by omega, h1, by rw [end_work hL e hj, if_neg hij]; exact h2, by rw [left_work hL e hj, if_neg hij]; exact h3⟩
theorem end_unit {sh : Bool} {L : List J4} (hL : JobsOk L) (i : Nat) (hi : i < L.length) : ∃ T, T < 300 ∧ schedAt sh L T = (i : Int) ∧ (finN L.length (planN sh L)).getD i 0 = (T : Int) + 1 := by
  rcases end_last (sh := sh) hL i hi 300 with ⟨h1, _⟩ | ⟨T, hT, h1, h2, _⟩
  · have := left_end (sh := sh) hL (Nat.le_refl _) i hi
    have := (hL.at_ i hi).1
    omega
  · exact ⟨T, hT, h1, h2⟩

/-! Going back from a job's end. -/
def worthy (L : List J4) (D : Int) (k : Nat) : Prop := ∃ j : Nat, j < L.length ∧ schedAt false L k = (j : Int) ∧ (L.getD j j0).d ≤ D
theorem go_back (L : List J4) (D : Int) (T : Nat) (hT : worthy L D T) : ∃ a, a ≤ T ∧ (∀ v, a ≤ v → v ≤ T → worthy L D v) ∧ (a = 0 ∨ ¬ worthy L D (a - 1)) := by
  induction T with
  | zero =>
    refine ⟨0, Nat.le_refl _, fun v h1 h2 => ?_, .inl rfl⟩
    obtain rfl : v = 0 := by omega
    exact hT
  | succ T ih =>
    by_cases h : worthy L D T
    · obtain ⟨a, h1, h2, h3⟩ := ih h
      refine ⟨a, by omega, fun v hv1 hv2 => ?_, h3⟩
      by_cases e : v = T + 1
      · subst e; exact hT
      · exact h2 v hv1 (by omega)
    · refine ⟨T + 1, Nat.le_refl _, fun v h1 h2 => ?_, .inr h⟩
      obtain rfl : v = T + 1 := by omega
      exact hT
/-- The jobs of a stretch. -/
def inStretch (L : List J4) (a b : Int) (i : Nat) : Bool := decide (a ≤ (L.getD i j0).r ∧ (L.getD i j0).d ≤ b)
def loadN (L : List J4) (a b : Int) : Int := sumS (inStretch L a b) (fun i => (L.getD i j0).t) L.length
theorem edf {L : List J4} (hL : JobsOk L) (x : Nat) (hx : x < L.length) : ∃ a : Nat, (a : Int) ≤ (L.getD x j0).r ∧ (finN L.length (planN false L)).getD x 0 - a ≤ loadN L a (L.getD x j0).d := by
  obtain ⟨T, hT, hs, he⟩ := end_unit (sh := false) hL x hx
  obtain ⟨a, haT, hw, hb⟩ := go_back L (L.getD x j0).d T ⟨x, hx, hs, Int.le_refl _⟩
  have hrel : ∀ v, a ≤ v → v ≤ T → ∀ j : Nat, j < L.length → schedAt false L v = (j : Int) → (L.getD j j0).d ≤ (L.getD x j0).d → (a : Int) ≤ (L.getD j j0).r := fun v h1 h2 j hj hsv hd => by
    rcases hb with hb | hb
    · subst hb; exact (hL.at_ j hj).2.2.1
    · refine Classical.byContradiction fun hr => hb ?_
      have ha1 : 1 ≤ a := by have := (hL.at_ j hj).2.2.1; omega
      have hl : 0 < leftAt false L (a - 1) j := by
        rcases sched_cases false L v with ⟨e, _⟩ | ⟨j', hj', e, _, h3, _⟩
        · omega
        · obtain rfl : j' = j := by omega
          have := left_mono (sh := false) hL (show a - 1 ≤ v by omega) j'
          omega
      have hra : (L.getD j j0).r ≤ ((a - 1 : Nat) : Int) := by omega
      rcases sched_cases false L (a - 1) with ⟨e, hno⟩ | ⟨i, hi, e, _, _, hmin⟩
      · exact absurd ⟨hra, hl⟩ (hno j hj)
      · have h4 := hmin j hj hra hl
        have h5 : (L.getD i j0).d ≤ (L.getD j j0).d := h4
        exact ⟨i, hi, e, by omega⟩
  refine ⟨a, hrel T haT (Nat.le_refl _) x hx hs (Int.le_refl _), ?_⟩
  -- the units of the stretch
  have hcount : ∀ w, a ≤ w → w ≤ T + 1 → (w : Int) - a ≤ sumS (inStretch L a (L.getD x j0).d) (fun i => leftAt false L a i - leftAt false L w i) L.length := by
    intro w h1
    induction w with
    | zero =>
      intro _
      have := sumS_nonneg (S := inStretch L a (L.getD x j0).d) (f := fun i => leftAt false L a i - leftAt false L 0 i) (n := L.length) (fun i hi _ => by
        have e : a = 0 := by omega
        rw [e]; simp) L.length (Nat.le_refl _)
      omega
    | succ w ih =>
      intro h2
      by_cases e : a = w + 1
      · subst e
        have := sumS_nonneg (S := inStretch L ((w + 1 : Nat) : Int) (L.getD x j0).d) (f := fun i => leftAt false L (w + 1) i - leftAt false L (w + 1) i) (n := L.length) (fun i hi _ => by simp) L.length (Nat.le_refl _)
        omega
      · have h3 := ih (by omega) (by omega)
        obtain ⟨j, hj, hsj, hdj⟩ := hw w (by omega) (by omega)
        have hrj := hrel w (by omega) (by omega) j hj hsj hdj
        have hSj : inStretch L a (L.getD x j0).d j = true := decide_eq_true ⟨hrj, hdj⟩
        have h4 := sumS_one (S := inStretch L a (L.getD x j0).d) (f := fun i => leftAt false L a i - leftAt false L (w + 1) i) (g := fun i => leftAt false L a i - leftAt false L w i) (i := j) (fun i hi => by
          show _ - leftAt false L (w + 1) i = _
          rw [left_work hL hsj hj, if_neg hi]) L.length
        rw [if_pos ⟨hj, hSj⟩] at h4
        have h5 : (leftAt false L a j - leftAt false L (w + 1) j) - (leftAt false L a j - leftAt false L w j) = 1 := by rw [left_work hL hsj hj, if_pos rfl]; omega
        rw [h4, h5]
        push_cast
        omega
  have h1 := hcount (T + 1) (by omega) (Nat.le_refl _)
  have h2 := sumS_le (S := inStretch L a (L.getD x j0).d) (f := fun i => leftAt false L a i - leftAt false L (T + 1) i) (g := fun i => (L.getD i j0).t) (n := L.length) (fun i hi _ => by
    have h3 := left_bd (sh := false) hL a i hi
    have h4 := left_bd (sh := false) hL (T + 1) i hi
    omega) L.length (Nat.le_refl _)
  rw [he, loadN]
  push_cast at h1
  omega

end Go.Proofs.Ytiadineakhcclaa
