/-
  Plain: the plan by the Time left has the least sum of ends.
-/
import Derived.Test.YtiadineakhcclaaDInv
namespace Go.Proofs.Ytiadineakhcclaa
set_option linter.unusedVariables false
set_option linter.unusedSimpArgs false

/-! Sums over all numbers below n. -/
def sumF (f : Nat → Int) : Nat → Int
  | 0 => 0
  | k + 1 => sumF f k + f k
theorem sumF_le {f g : Nat → Int} : ∀ k, (∀ i, i < k → f i ≤ g i) → sumF f k ≤ sumF g k
  | 0, _ => Int.le_refl _
  | k + 1, h => by have h1 := sumF_le k (fun i hi => h i (by omega)); have h2 := h k (by omega); rw [sumF, sumF]; omega
theorem sumF_congr {f g : Nat → Int} : ∀ k, (∀ i, i < k → f i = g i) → sumF f k = sumF g k
  | 0, _ => rfl
  | k + 1, h => by rw [sumF, sumF, sumF_congr k (fun i hi => h i (by omega)), h k (by omega)]
theorem sumF_one {f g : Nat → Int} {i : Nat} : ∀ k, (∀ j, j < k → j ≠ i → f j = g j) → sumF f k = sumF g k + if i < k then f i - g i else 0
  | 0, _ => by simp [sumF]
  | k + 1, h => by
    rw [sumF, sumF, sumF_one k (fun j hj => h j (by omega))]
    by_cases e : k = i
    · subst e
      rw [if_neg (Nat.lt_irrefl _), if_pos (by omega)]; omega
    · rw [h k (by omega) e]
      by_cases h2 : i < k
      · rw [if_pos h2, if_pos (by omega)]; omega
      · rw [if_neg h2, if_neg (by omega)]; omega
theorem sumF_nonneg {f : Nat → Int} : ∀ k, (∀ i, i < k → 0 ≤ f i) → 0 ≤ sumF f k
  | 0, _ => Int.le_refl _
  | k + 1, h => by have h1 := sumF_nonneg k (fun i hi => h i (by omega)); have h2 := h k (by omega); rw [sumF]; omega
theorem sumF_ge {f : Nat → Int} : ∀ k, (∀ i, i < k → 0 ≤ f i) → ∀ i, i < k → f i ≤ sumF f k
  | 0, _, i, hi => absurd hi (by omega)
  | k + 1, h, i, hi => by
    rw [sumF]
    have h0 := sumF_nonneg k (fun i hi => h i (by omega))
    have h1 := h k (by omega)
    by_cases e : i = k
    · subst e; omega
    · have := sumF_ge k (fun i hi => h i (by omega)) i (by omega); omega
theorem sumF_pos {f : Nat → Int} : ∀ k, 0 < sumF f k → ∃ i, i < k ∧ 0 < f i
  | 0, h => absurd h (by simp [sumF])
  | k + 1, h => by
    rw [sumF] at h
    by_cases h2 : 0 < f k
    · exact ⟨k, by omega, h2⟩
    · obtain ⟨i, hi, h3⟩ := sumF_pos (f := f) k (by omega)
      exact ⟨i, by omega, h3⟩
theorem sumF_add (f g : Nat → Int) : ∀ k, sumF (fun i => f i + g i) k = sumF f k + sumF g k
  | 0 => rfl
  | k + 1 => by rw [sumF, sumF, sumF, sumF_add f g k]; omega
theorem sumF_zero : ∀ k, sumF (fun _ => 0) k = 0
  | 0 => rfl
  | k + 1 => by rw [sumF, sumF_zero k]; rfl
theorem sumF_swap (f : Nat → Nat → Int) (n : Nat) : ∀ k, sumF (fun i => sumF (fun t => f i t) k) n = sumF (fun t => sumF (fun i => f i t) n) k
  | 0 => by rw [sumF]; exact sumF_zero n
  | k + 1 => by
    rw [sumF, ← sumF_swap f n k, ← sumF_add]; rfl
theorem sumF_first (e : Nat) : ∀ k, sumF (fun t => if t < e then 1 else 0) k = if k ≤ e then (k : Int) else e
  | 0 => by rw [sumF, if_pos (by omega)]; rfl
  | k + 1 => by
    rw [sumF, sumF_first e k]
    by_cases h1 : k + 1 ≤ e
    · rw [if_pos (by omega), if_pos (by omega), if_pos h1]; push_cast; omega
    · by_cases h2 : k ≤ e
      · rw [if_pos h2, if_neg (by omega), if_neg h1]; omega
      · rw [if_neg h2, if_neg (by omega), if_neg h1]; omega

/-! Another whole plan, unit by unit. -/
def dn (p : List P3) (t : Int) (i : Nat) : Nat → Int
  | 0 => 0
  | m + 1 => dn p t i m + if (p.getD m p0).job.toNat = i then max 0 (min (p.getD m p0).to t - (p.getD m p0).fr) else 0
theorem doneTo_sum_i {L : List J4} {p : List P3} {i : Nat} (hi : i < L.length) : ∀ m, (∀ k, k < m → OkPc L p k) → (doneTo L.length p (m)).getD i 0 = sumF (fun k => if (p.getD k p0).job.toNat = i then (p.getD k p0).to - (p.getD k p0).fr else 0) m
  | 0, _ => by show (List.replicate L.length (0 : Int)).getD i 0 = 0; rw [List.getD_eq_getElem?_getD, List.getElem?_replicate, if_pos hi]; rfl
  | m + 1, h => by
    have hk := h m (by omega)
    rw [doneTo, sumF, ← doneTo_sum_i hi m (fun k hk => h k (by omega)), getD_set_i _ _ _ _ _ (by rw [doneTo_len]; have := hk.ja; have := hk.jb; omega)]
    by_cases e : i = (p.getD m p0).job.toNat
    · rw [if_pos e, if_pos e.symm, ← e]
    · rw [if_neg e, if_neg (fun h => e h.symm)]; omega
theorem dn_sum (p : List P3) (t : Int) (i : Nat) : ∀ m, dn p t i m = sumF (fun k => if (p.getD k p0).job.toNat = i then max 0 (min (p.getD k p0).to t - (p.getD k p0).fr) else 0) m
  | 0 => rfl
  | m + 1 => by rw [dn, sumF, dn_sum p t i m]
/-- Which piece holds time t. -/
def cov (p : List P3) (t : Int) (m : Nat) : Prop := ∃ k, k < m ∧ (p.getD k p0).fr ≤ t ∧ t < (p.getD k p0).to
theorem to_le {L : List J4} {p : List P3} : ∀ d k, (∀ j, j ≤ k + d → OkPc L p j) → d ≠ 0 → (p.getD k p0).to ≤ (p.getD (k + d) p0).fr
  | 0, k, _, h => absurd rfl h
  | d + 1, k, h, _ => by
    have h1 := (h (k + d + 1) (by omega)).prev (by omega)
    rw [show k + d + 1 - 1 = k + d by omega] at h1
    by_cases e : d = 0
    · subst e; exact h1.1
    · have h2 := to_le d k (fun j hj => h j (by omega)) e
      have h3 := (h (k + d) (by omega)).lt
      show _ ≤ (p.getD (k + d + 1) p0).fr
      omega
theorem cov_one {L : List J4} {p : List P3} (h : ∀ k, k < p.length → OkPc L p k) {t : Int} {k k' : Nat} (hk : k < p.length) (hk' : k' < p.length) (h1 : (p.getD k p0).fr ≤ t ∧ t < (p.getD k p0).to) (h2 : (p.getD k' p0).fr ≤ t ∧ t < (p.getD k' p0).to) : k = k' := by
  rcases Nat.lt_trichotomy k k' with e | e | e
  · have := to_le (L := L) (p := p) (k' - k) k (fun j hj => h j (by omega)) (by omega)
    rw [show k + (k' - k) = k' by omega] at this
    omega
  · exact e
  · have := to_le (L := L) (p := p) (k - k') k' (fun j hj => h j (by omega)) (by omega)
    rw [show k' + (k - k') = k by omega] at this
    omega
def rest (L : List J4) (p : List P3) (t : Nat) (i : Nat) : Int := (L.getD i j0).t - dn p t i p.length
theorem rest_step {L : List J4} (hL : JobsOk L) {p : List P3} (h : WholeP L p) (t : Nat) : (∀ i, i < L.length → rest L p (t + 1) i = rest L p t i) ∨
    ∃ j, j < L.length ∧ (L.getD j j0).r ≤ t ∧ rest L p (t + 1) j = rest L p t j - 1 ∧ ∀ i, i < L.length → i ≠ j → rest L p (t + 1) i = rest L p t i := by
  have hterm : ∀ k, k < p.length → max 0 (min (p.getD k p0).to ((t + 1 : Nat) : Int) - (p.getD k p0).fr) = max 0 (min (p.getD k p0).to (t : Int) - (p.getD k p0).fr) + if (p.getD k p0).fr ≤ (t : Int) ∧ (t : Int) < (p.getD k p0).to then 1 else 0 := fun k hk => by
    have := (h.pcs k hk).lt
    split <;> (push_cast; omega)
  by_cases hc : cov p t p.length
  · right
    obtain ⟨k, hk, hk1, hk2⟩ := hc
    have hok := h.pcs k hk
    refine ⟨(p.getD k p0).job.toNat, by have := hok.ja; have := hok.jb; omega, by have := hok.rel; omega, ?_, fun i hi hne => ?_⟩
    · rw [rest, rest, dn_sum, dn_sum]
      have h1 := sumF_one (f := fun k' => if (p.getD k' p0).job.toNat = (p.getD k p0).job.toNat then max 0 (min (p.getD k' p0).to ((t + 1 : Nat) : Int) - (p.getD k' p0).fr) else 0) (g := fun k' => if (p.getD k' p0).job.toNat = (p.getD k p0).job.toNat then max 0 (min (p.getD k' p0).to (t : Int) - (p.getD k' p0).fr) else 0) (i := k) p.length (fun j hj hne => by
        show (if _ then _ else _) = (if _ then _ else _)
        rw [hterm j hj, if_neg (fun hh => hne (cov_one h.pcs hj hk hh ⟨hk1, hk2⟩)), Int.add_zero])
      rw [h1, if_pos hk, if_pos rfl, if_pos rfl, hterm k hk, if_pos ⟨hk1, hk2⟩]
      omega
    · rw [rest, rest, dn_sum, dn_sum]
      congr 1
      refine sumF_congr _ fun j hj => ?_
      by_cases e : (p.getD j p0).job.toNat = i
      · rw [if_pos e, if_pos e, hterm j hj, if_neg (fun hh => hne (by rw [← e, cov_one h.pcs hj hk hh ⟨hk1, hk2⟩])), Int.add_zero]
      · rw [if_neg e, if_neg e]
  · left
    intro i hi
    rw [rest, rest, dn_sum, dn_sum]
    congr 1
    refine sumF_congr _ fun j hj => ?_
    rw [hterm j hj, if_neg (fun hh => hc ⟨j, hj, hh⟩), Int.add_zero]
theorem rest_zero {L : List J4} (hL : JobsOk L) {p : List P3} (h : WholeP L p) (i : Nat) : rest L p 0 i = (L.getD i j0).t := by
  rw [rest, dn_sum]
  have : sumF (fun k => if (p.getD k p0).job.toNat = i then max 0 (min (p.getD k p0).to ((0 : Nat) : Int) - (p.getD k p0).fr) else 0) p.length = sumF (fun _ => 0) p.length := sumF_congr _ fun j hj => by
    have h1 := ok_from hL (h.pcs j hj)
    have h2 := (h.pcs j hj).lt
    split
    · omega
    · rfl
  rw [this, sumF_zero]; omega
theorem rest_sum {L : List J4} {p : List P3} (h : WholeP L p) (t i : Nat) (hi : i < L.length) : rest L p t i = sumF (fun k => if (p.getD k p0).job.toNat = i then (p.getD k p0).to - (p.getD k p0).fr - max 0 (min (p.getD k p0).to (t : Int) - (p.getD k p0).fr) else 0) p.length := by
  have h1 := h.all i hi
  rw [doneTo_sum_i hi _ h.pcs] at h1
  rw [rest, ← h1, dn_sum]
  have h2 := sumF_add (fun k => if (p.getD k p0).job.toNat = i then max 0 (min (p.getD k p0).to (t : Int) - (p.getD k p0).fr) else 0) (fun k => if (p.getD k p0).job.toNat = i then (p.getD k p0).to - (p.getD k p0).fr - max 0 (min (p.getD k p0).to (t : Int) - (p.getD k p0).fr) else 0) p.length
  have h3 := sumF_congr (f := fun k => (if (p.getD k p0).job.toNat = i then max 0 (min (p.getD k p0).to (t : Int) - (p.getD k p0).fr) else 0) + (if (p.getD k p0).job.toNat = i then (p.getD k p0).to - (p.getD k p0).fr - max 0 (min (p.getD k p0).to (t : Int) - (p.getD k p0).fr) else 0)) (g := fun k => if (p.getD k p0).job.toNat = i then (p.getD k p0).to - (p.getD k p0).fr else 0) p.length (fun j hj => by
    split <;> omega)
  omega
theorem fin_some {L : List J4} {p : List P3} {i : Nat} : ∀ m, (∀ k, k < m → OkPc L p k) → 0 < (finTo L.length p m).getD i 0 → ∃ k, k < m ∧ (p.getD k p0).job.toNat = i ∧ (p.getD k p0).to = (finTo L.length p m).getD i 0
  | 0, _, h => by
    exfalso
    rw [finTo, List.getD_eq_getElem?_getD, List.getElem?_replicate] at h
    split at h <;> simp at h
  | m + 1, h, hp => by
    have hk := h m (by omega)
    rw [finTo, getD_set_i _ _ _ _ _ (by rw [finTo_len]; have := hk.ja; have := hk.jb; omega)] at hp ⊢
    by_cases e : i = (p.getD m p0).job.toNat
    · rw [if_pos e]; exact ⟨m, by omega, e.symm, rfl⟩
    · rw [if_neg e] at hp ⊢
      obtain ⟨k, hk1, hk2, hk3⟩ := fin_some m (fun k hk => h k (by omega)) hp
      exact ⟨k, by omega, hk2, hk3⟩
theorem rest_pos {L : List J4} (hL : JobsOk L) {p : List P3} (h : WholeP L p) (t i : Nat) (hi : i < L.length) : 0 < rest L p t i ↔ (t : Int) < (finN L.length p).getD i 0 := by
  rw [rest_sum h t i hi]
  constructor
  · intro h1
    obtain ⟨k, hk, h2⟩ := sumF_pos _ h1
    have h3 := fin_ge hL p.length h.pcs (Nat.le_refl _) k hk
    have h4 := (h.pcs k hk).lt
    split at h2
    · rename_i e
      rw [e] at h3
      rw [finN]
      omega
    · omega
  · intro h1
    obtain ⟨k, hk, h2, h3⟩ := fin_some (i := i) p.length h.pcs (by rw [finN] at h1; omega)
    have h4 := (h.pcs k hk).lt
    have h5 := sumF_ge (f := fun k => if (p.getD k p0).job.toNat = i then (p.getD k p0).to - (p.getD k p0).fr - max 0 (min (p.getD k p0).to (t : Int) - (p.getD k p0).fr) else 0) p.length (fun j hj => by
      have := (h.pcs j hj).lt
      show 0 ≤ (if (p.getD j p0).job.toNat = i then (p.getD j p0).to - (p.getD j p0).fr - max 0 (min (p.getD j p0).to (t : Int) - (p.getD j p0).fr) else 0)
      split <;> omega) k hk
    simp only [if_pos h2] at h5
    rw [finN] at h1
    omega
theorem rest_nonneg {L : List J4} (hL : JobsOk L) {p : List P3} (h : WholeP L p) (t i : Nat) (hi : i < L.length) : 0 ≤ rest L p t i := by
  rw [rest_sum h t i hi]
  refine sumF_nonneg _ fun j hj => ?_
  have := (h.pcs j hj).lt
  split <;> omega

/-! No time has fewer jobs left. -/
def cardR (R : Nat → Bool) (n : Nat) : Int := sumF (fun i => if R i then 1 else 0) n
def outR (R : Nat → Bool) (x : Nat → Int) (n : Nat) : Int := sumF (fun i => if R i then 0 else x i) n
theorem early {L : List J4} (hL : JobsOk L) {p : List P3} (h : WholeP L p) : ∀ t : Nat, (∀ i, i < L.length → (t : Int) < (L.getD i j0).r → rest L p t i = (L.getD i j0).t ∧ leftAt true L t i = (L.getD i j0).t)
  | 0, i, hi, _ => ⟨rest_zero hL h i, left_zero true L i⟩
  | t + 1, i, hi, hr => by
    obtain ⟨h1, h2⟩ := early hL h t i hi (by push_cast at hr; omega)
    constructor
    · rcases rest_step hL h t with hs | ⟨j, hj, hjr, _, hs⟩
      · rw [hs i hi]; exact h1
      · rw [hs i hi (fun e => by subst e; push_cast at hr; omega)]; exact h1
    · rcases sched_cases true L t with ⟨e, _⟩ | ⟨j, hj, e, hjr, _, _⟩
      · rw [left_idle e]; exact h2
      · rw [left_work hL e hj, if_neg (fun e2 => by subst e2; push_cast at hr; omega)]; exact h2
theorem dom {L : List J4} (hL : JobsOk L) {p : List P3} (h : WholeP L p) : ∀ t : Nat, ∀ R : Nat → Bool, ∃ R' : Nat → Bool, (∀ i, i < L.length → (t : Int) < (L.getD i j0).r → R' i = R i) ∧ cardR R' L.length ≤ cardR R L.length ∧ outR R' (leftAt true L t) L.length ≤ outR R (rest L p t) L.length
  | 0, R => ⟨R, fun _ _ _ => rfl, Int.le_refl _, by
      refine sumF_le _ fun i hi => ?_
      rw [rest_zero hL h i, left_zero]; exact Int.le_refl _⟩
  | t + 1, R => by
    obtain ⟨R', h1, h2, h3⟩ := dom hL h t R
    have hx0 : ∀ i, i < L.length → 0 ≤ leftAt true L t i := fun i hi => (left_bd hL t i hi).1
    have hxm : ∀ i, leftAt true L (t + 1) i ≤ leftAt true L t i := fun i => left_le_succ hL t i
    have hless : ∀ R'' : Nat → Bool, outR R'' (leftAt true L (t + 1)) L.length ≤ outR R'' (leftAt true L t) L.length := fun R'' => sumF_le _ fun i hi => by
      have := hxm i
      split <;> omega
    have hu : ∀ R'' : Nat → Bool, (∀ i, i < L.length → (t : Int) < (L.getD i j0).r → R'' i = R i) → ∀ i, i < L.length → ((t + 1 : Nat) : Int) < (L.getD i j0).r → R'' i = R i := fun R'' hh i hi hr => hh i hi (by push_cast at hr; omega)
    rcases rest_step hL h t with hs | ⟨j, hj, hjr, hj1, hs⟩
    · refine ⟨R', hu R' h1, h2, Int.le_trans (hless R') (Int.le_trans h3 (Int.le_of_eq ?_))⟩
      exact (sumF_congr _ fun i hi => by rw [hs i hi]).symm
    · by_cases hjR : R j = true
      · refine ⟨R', hu R' h1, h2, Int.le_trans (hless R') (Int.le_trans h3 (Int.le_of_eq ?_))⟩
        refine (sumF_congr _ fun i hi => ?_).symm
        by_cases e : i = j
        · subst e; rw [if_pos hjR, if_pos hjR]
        · rw [hs i hi e]
      · have hdrop : outR R (rest L p (t + 1)) L.length = outR R (rest L p t) L.length - 1 := by
          have h4 : outR R (rest L p (t + 1)) L.length = outR R (rest L p t) L.length + if j < L.length then (if R j = true then 0 else rest L p (t + 1) j) - (if R j = true then 0 else rest L p t j) else 0 := sumF_one L.length (fun i hi hne => by
            show (if _ then _ else _) = (if _ then _ else _)
            rw [hs i hi hne])
          rw [if_pos hj, if_neg hjR, if_neg hjR, hj1] at h4
          omega
        by_cases hlt : outR R' (leftAt true L t) L.length ≤ outR R (rest L p t) L.length - 1
        · exact ⟨R', hu R' h1, h2, by rw [hdrop]; exact Int.le_trans (hless R') hlt⟩
        · -- the same work: somebody who is released and not in R' has work left
          have heq : outR R' (leftAt true L t) L.length = outR R (rest L p t) L.length := by omega
          have hjpos : 1 ≤ rest L p t j := by have := rest_nonneg hL h (t + 1) j hj; omega
          have hi0 : ∃ i, i < L.length ∧ (L.getD i j0).r ≤ t ∧ R' i ≠ true ∧ 0 < leftAt true L t i := by
            refine Classical.byContradiction fun hno => ?_
            have h5 : outR R' (leftAt true L t) L.length ≤ sumF (fun i => if R i then 0 else if (t : Int) < (L.getD i j0).r then rest L p t i else 0) L.length := sumF_le _ fun i hi => by
              by_cases hr : (t : Int) < (L.getD i j0).r
              · obtain ⟨e1, e2⟩ := early hL h t i hi hr
                show (if R' i = true then _ else _) ≤ (if R i = true then _ else _)
                rw [h1 i hi hr, e2, if_pos hr, e1]; exact Int.le_refl _
              · have h6 : (if R' i = true then 0 else leftAt true L t i) ≤ 0 := by
                  by_cases e : R' i = true
                  · rw [if_pos e]; exact Int.le_refl _
                  · rw [if_neg e]
                    refine Int.not_lt.1 fun h7 => hno ⟨i, hi, by omega, e, h7⟩
                show (if R' i = true then _ else _) ≤ (if R i = true then _ else _)
                rw [if_neg hr, show (if R i = true then (0 : Int) else 0) = 0 from by split <;> rfl]
                exact h6
            have h6 : outR R (rest L p t) L.length = sumF (fun i => if i = j then 0 else if R i then 0 else rest L p t i) L.length + if j < L.length then (if R j = true then 0 else rest L p t j) - (if j = j then 0 else if R j then 0 else rest L p t j) else 0 := sumF_one L.length (fun i hi hne => by
              show _ = (if _ then _ else _)
              rw [if_neg hne])
            have h7 : sumF (fun i => if R i then 0 else if (t : Int) < (L.getD i j0).r then rest L p t i else 0) L.length ≤ sumF (fun i => if i = j then 0 else if R i then 0 else rest L p t i) L.length := sumF_le _ fun i hi => by
              have := rest_nonneg hL h t i hi
              by_cases e : i = j
              · subst e
                rw [if_pos rfl, if_neg hjR, if_neg (by omega)]; exact Int.le_refl _
              · rw [if_neg e]
                split
                · exact Int.le_refl _
                · split <;> omega
            rw [if_pos hj, if_neg hjR, if_pos rfl] at h6
            omega
          obtain ⟨i, hi, hir, hiR, hix⟩ := hi0
          rcases sched_cases true L t with ⟨e, hno⟩ | ⟨s, hs9, e, hsr, hsx, hmin⟩
          · exact absurd ⟨hir, hix⟩ (hno i hi)
          · have hle : leftAt true L t s ≤ leftAt true L t i := hmin i hi hir hix
            have hstep : ∀ R'' : Nat → Bool, R'' s ≠ true → outR R'' (leftAt true L (t + 1)) L.length = outR R'' (leftAt true L t) L.length - 1 := fun R'' hR => by
              have h4 : outR R'' (leftAt true L (t + 1)) L.length = outR R'' (leftAt true L t) L.length + if s < L.length then (if R'' s = true then 0 else leftAt true L (t + 1) s) - (if R'' s = true then 0 else leftAt true L t s) else 0 := sumF_one L.length (fun i hi hne => by
                show (if _ then _ else _) = (if _ then _ else _)
                rw [left_work hL e hs9, if_neg hne])
              rw [if_pos hs9, if_neg hR, if_neg hR, left_work hL e hs9, if_pos rfl] at h4
              omega
            by_cases hsR : R' s = true
            · have hsi : s ≠ i := fun e2 => hiR (e2 ▸ hsR)
              refine ⟨fun k => if k = s then false else if k = i then true else R' k, hu _ fun k hk hr => ?_, ?_, ?_⟩
              · show (if k = s then false else if k = i then true else R' k) = R k
                rw [if_neg (fun e2 => by subst e2; omega), if_neg (fun e2 => by subst e2; omega)]
                exact h1 k hk hr
              · -- one out, one in
                have c1 : cardR (fun k => if k = s then false else if k = i then true else R' k) L.length = cardR (fun k => if k = i then true else R' k) L.length + if s < L.length then (if (if s = s then false else if s = i then true else R' s) = true then 1 else 0) - (if (if s = i then true else R' s) = true then 1 else 0) else 0 := sumF_one L.length (fun k hk hne => by
                  show (if (if k = s then false else if k = i then true else R' k) = true then (1 : Int) else 0) = (if (if k = i then true else R' k) = true then 1 else 0)
                  rw [if_neg hne])
                have c2 : cardR (fun k => if k = i then true else R' k) L.length = cardR R' L.length + if i < L.length then (if (if i = i then true else R' i) = true then 1 else 0) - (if R' i = true then 1 else 0) else 0 := sumF_one L.length (fun k hk hne => by
                  show (if (if k = i then true else R' k) = true then (1 : Int) else 0) = (if R' k = true then 1 else 0)
                  rw [if_neg hne])
                rw [if_pos hs9, if_pos rfl, if_neg (by simp), if_neg hsi, if_pos hsR] at c1
                rw [if_pos hi, if_pos rfl, if_pos rfl, if_neg hiR] at c2
                omega
              · have c1 : outR (fun k => if k = s then false else if k = i then true else R' k) (leftAt true L t) L.length = outR (fun k => if k = i then true else R' k) (leftAt true L t) L.length + if s < L.length then (if (if s = s then false else if s = i then true else R' s) = true then 0 else leftAt true L t s) - (if (if s = i then true else R' s) = true then 0 else leftAt true L t s) else 0 := sumF_one L.length (fun k hk hne => by
                  show (if (if k = s then false else if k = i then true else R' k) = true then (0 : Int) else leftAt true L t k) = (if (if k = i then true else R' k) = true then 0 else leftAt true L t k)
                  rw [if_neg hne])
                have c2 : outR (fun k => if k = i then true else R' k) (leftAt true L t) L.length = outR R' (leftAt true L t) L.length + if i < L.length then (if (if i = i then true else R' i) = true then 0 else leftAt true L t i) - (if R' i = true then 0 else leftAt true L t i) else 0 := sumF_one L.length (fun k hk hne => by
                  show (if (if k = i then true else R' k) = true then (0 : Int) else leftAt true L t k) = (if R' k = true then 0 else leftAt true L t k)
                  rw [if_neg hne])
                rw [if_pos hs9, if_pos rfl, if_neg (by simp), if_neg hsi, if_pos hsR] at c1
                rw [if_pos hi, if_pos rfl, if_pos rfl, if_neg hiR] at c2
                rw [hstep _ (by show ¬ (if s = s then false else _) = true; rw [if_pos rfl]; simp), hdrop]
                omega
            · exact ⟨R', hu R' h1, h2, by rw [hstep R' hsR, hdrop]; omega⟩
theorem fewer {L : List J4} (hL : JobsOk L) {p : List P3} (h : WholeP L p) (t : Nat) : sumF (fun i => if 0 < leftAt true L t i then 1 else 0) L.length ≤ sumF (fun i => if 0 < rest L p t i then 1 else 0) L.length := by
  obtain ⟨R', h1, h2, h3⟩ := dom hL h t (fun i => decide (0 < rest L p t i))
  have h4 : outR (fun i => decide (0 < rest L p t i)) (rest L p t) L.length = 0 := by
    unfold outR
    rw [sumF_congr (g := fun _ => 0) _ (fun i hi => by
      have := rest_nonneg hL h t i hi
      show (if decide (0 < rest L p t i) = true then _ else _) = _
      by_cases e : 0 < rest L p t i
      · rw [if_pos (decide_eq_true e)]
      · rw [if_neg (by simpa using e)]; omega)]
    exact sumF_zero _
  rw [h4] at h3
  have h5 : ∀ i, i < L.length → R' i ≠ true → leftAt true L t i ≤ 0 := fun i hi hR => by
    have h6 := sumF_ge (f := fun i => if R' i then 0 else leftAt true L t i) L.length (fun k hk => by
      have := (left_bd (sh := true) hL t k hk).1
      show 0 ≤ (if R' k = true then 0 else leftAt true L t k)
      split <;> omega) i hi
    simp only [if_neg hR] at h6
    unfold outR at h3
    omega
  have h6 : sumF (fun i => if 0 < leftAt true L t i then (1 : Int) else 0) L.length ≤ cardR R' L.length := sumF_le _ fun i hi => by
    show (if _ then _ else _) ≤ (if _ then _ else _)
    by_cases e : R' i = true
    · rw [if_pos e]; split <;> omega
    · rw [if_neg e, if_neg (by have := h5 i hi e; omega)]; exact Int.le_refl _
  have h7 : cardR (fun i => decide (0 < rest L p t i)) L.length = sumF (fun i => if 0 < rest L p t i then (1 : Int) else 0) L.length := sumF_congr _ fun i hi => by
    show (if decide (0 < rest L p t i) = true then _ else _) = _
    by_cases e : 0 < rest L p t i
    · rw [if_pos (decide_eq_true e), if_pos e]
    · rw [if_neg (by simpa using e), if_neg e]
  omega
theorem left_pos {L : List J4} (hL : JobsOk L) (t i : Nat) (hi : i < L.length) : 0 < leftAt true L t i ↔ (t : Int) < (finN L.length (planN true L)).getD i 0 := by
  rcases end_last (sh := true) hL i hi 300 with ⟨h1, _⟩ | ⟨T, hT, h1, h2, h3⟩
  · have := left_end (sh := true) hL (Nat.le_refl _) i hi
    have := (hL.at_ i hi).1
    omega
  · have h4 := left_end (sh := true) hL (Nat.le_refl _) i hi
    have h5 : (finN L.length (planN true L)).getD i 0 = (T : Int) + 1 := h2
    rw [h5]
    have hT1 : 0 < leftAt true L T i := by
      rcases sched_cases true L T with ⟨e, _⟩ | ⟨j, hj, e, _, h6, _⟩
      · omega
      · obtain rfl : j = i := by omega
        exact h6
    constructor
    · intro h6
      refine Int.not_le.1 fun h7 => ?_
      have := left_mono (sh := true) hL (show T + 1 ≤ t by omega) i
      omega
    · intro h6
      have := left_mono (sh := true) hL (show t ≤ T by omega) i
      omega
/-- No whole plan has a lesser sum of ends. -/
theorem short_best {L : List J4} (hL : JobsOk L) {p : List P3} (h : WholeP L p) : sumF (fun i => (finN L.length (planN true L)).getD i 0) L.length ≤ sumF (fun i => (finN L.length p).getD i 0) L.length := by
  have hsum : ∀ (e : Nat → Int), (∀ i, i < L.length → 0 ≤ e i ∧ e i ≤ 1001) → sumF e L.length = sumF (fun t => sumF (fun i => if (t : Int) < e i then 1 else 0) L.length) 1001 := fun e he => by
    rw [← sumF_swap (fun i t => if (t : Int) < e i then 1 else 0) L.length 1001]
    refine sumF_congr _ fun i hi => ?_
    have h1 := he i hi
    have h2 := sumF_first (e i).toNat 1001
    rw [sumF_congr (g := fun t : Nat => if t < (e i).toNat then 1 else 0) 1001 (fun t ht => by
      by_cases e2 : (t : Int) < e i
      · rw [if_pos e2, if_pos (by omega)]
      · rw [if_neg e2, if_neg (by omega)]), h2]
    split <;> omega
  have hb := whole_to hL h
  have hb2 := whole_to hL (planN_whole true hL)
  rw [hsum _ (fun i hi => by have := finTo_bd (n := L.length) (p := planN true L) (m := 1000) (by omega) (fun q hq => (hb2.2 q hq).2.2) _ (Nat.le_refl _) i; rw [finN]; omega),
    hsum _ (fun i hi => by have := finTo_bd (n := L.length) (p := p) (m := 1000) (by omega) (fun q hq => (hb.2 q hq).2.2) _ (Nat.le_refl _) i; rw [finN]; omega)]
  refine sumF_le _ fun t ht => ?_
  have h1 := fewer hL h t
  rw [sumF_congr (f := fun i => if 0 < leftAt true L t i then (1 : Int) else 0) (g := fun i => if (t : Int) < (finN L.length (planN true L)).getD i 0 then 1 else 0) _ (fun i hi => by simp only [left_pos hL t i hi]),
    sumF_congr (f := fun i => if 0 < rest L p t i then (1 : Int) else 0) (g := fun i => if (t : Int) < (finN L.length p).getD i 0 then 1 else 0) _ (fun i hi => by simp only [rest_pos hL h t i hi])] at h1
  exact h1
end Go.Proofs.Ytiadineakhcclaa
