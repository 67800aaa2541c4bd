/-
  DatesOrders, part 2 of 4: the texts DSrpt, DFitP, DFits, DOnes, DWeigh, DMost, DMostA, DFitQ, DRefFits, DRefMost, DOnesP, DOrd, Equal, DEnds, DOnTP, DLeastP, PlanD, PlanS, DPlans, DApi, RefPlanD, joined.
-/
import Derived.Test.YtiadineakhcclaaMrgDatesOrders1
import Derived.Test.YtiadineakhcclaaProg
import Derived.BigQuiet
import Derived.WalkSpells
import Derived.Deep.Draws

/-
  Plain: the plan by the Time left has the least sum of ends.
-/
namespace Go.Proofs.Ytiadineakhcclaa
set_option linter.unusedVariables false
set_option linter.unusedSimpArgs false

/-! Sums over all numbers below n. -/
def sumF (f : Nat → Int) : Nat → Int
  | 0 => 0
  | k + 1 => sumF f k + f k
theorem sumF_le {f g : Nat → Int} : ∀ k, (∀ i, i < k → f i ≤ g i) → sumF f k ≤ sumF g k
  | 0, _ => Int.le_refl _
  | k + 1, h => by have h1 := sumF_le k (fun i hi => h i (by omega)); have h2 := h k (by omega); rw [sumF, sumF]; omega
theorem sumF_congr {f g : Nat → Int} : ∀ k, (∀ i, i < k → f i = g i) → sumF f k = sumF g k
  | 0, _ => rfl
  | k + 1, h => by rw [sumF, sumF, sumF_congr k (fun i hi => h i (by omega)), h k (by omega)]
theorem sumF_one {f g : Nat → Int} {i : Nat} : ∀ k, (∀ j, j < k → j ≠ i → f j = g j) → sumF f k = sumF g k + if i < k then f i - g i else 0
  | 0, _ => by simp [sumF]
  | k + 1, h => by
    rw [sumF, sumF, sumF_one k (fun j hj => h j (by omega))]
    by_cases e : k = i
    · subst e
      rw [if_neg (Nat.lt_irrefl _), if_pos (by omega)]; omega
    · rw [h k (by omega) e]
      by_cases h2 : i < k
      · rw [if_pos h2, if_pos (by omega)]; omega
      · rw [if_neg h2, if_neg (by omega)]; omega
theorem sumF_nonneg {f : Nat → Int} : ∀ k, (∀ i, i < k → 0 ≤ f i) → 0 ≤ sumF f k
  | 0, _ => Int.le_refl _
  | k + 1, h => by have h1 := sumF_nonneg k (fun i hi => h i (by omega)); have h2 := h k (by omega); rw [sumF]; omega
theorem sumF_ge {f : Nat → Int} : ∀ k, (∀ i, i < k → 0 ≤ f i) → ∀ i, i < k → f i ≤ sumF f k
  | 0, _, i, hi => absurd hi (by omega)
  | k + 1, h, i, hi => by
    rw [sumF]
    have h0 := sumF_nonneg k (fun i hi => h i (by omega))
    have h1 := h k (by omega)
    by_cases e : i = k
    · subst e; omega
    · have := sumF_ge k (fun i hi => h i (by omega)) i (by omega); omega
theorem sumF_pos {f : Nat → Int} : ∀ k, 0 < sumF f k → ∃ i, i < k ∧ 0 < f i
  | 0, h => absurd h (by simp [sumF])
  | k + 1, h => by
    rw [sumF] at h
    by_cases h2 : 0 < f k
    · exact ⟨k, by omega, h2⟩
    · obtain ⟨i, hi, h3⟩ := sumF_pos (f := f) k (by omega)
      exact ⟨i, by omega, h3⟩
theorem sumF_add (f g : Nat → Int) : ∀ k, sumF (fun i => f i + g i) k = sumF f k + sumF g k
  | 0 => rfl
  | k + 1 => by rw [sumF, sumF, sumF, sumF_add f g k]; omega
theorem sumF_zero : ∀ k, sumF (fun _ => 0) k = 0
  | 0 => rfl
  | k + 1 => by rw [sumF, sumF_zero k]; rfl
theorem sumF_swap (f : Nat → Nat → Int) (n : Nat) : ∀ k, sumF (fun i => sumF (fun t => f i t) k) n = sumF (fun t => sumF (fun i => f i t) n) k
  | 0 => by rw [sumF]; exact sumF_zero n
  | k + 1 => by
    rw [sumF, ← sumF_swap f n k, ← sumF_add]; rfl
theorem sumF_first (e : Nat) : ∀ k, sumF (fun t => if t < e then 1 else 0) k = if k ≤ e then (k : Int) else e
  | 0 => by rw [sumF, if_pos (by omega)]; rfl
  | k + 1 => by
    rw [sumF, sumF_first e k]
    by_cases h1 : k + 1 ≤ e
    · rw [if_pos (by omega), if_pos (by omega), if_pos h1]; push_cast; omega
    · by_cases h2 : k ≤ e
      · rw [if_pos h2, if_neg (by omega), if_neg h1]; omega
      · rw [if_neg h2, if_neg (by omega), if_neg h1]; omega

/-! Another whole plan, unit by unit. -/
def dn (p : List P3) (t : Int) (i : Nat) : Nat → Int
  | 0 => 0
  | m + 1 => dn p t i m + if (p.getD m p0).job.toNat = i then max 0 (min (p.getD m p0).to t - (p.getD m p0).fr) else 0
theorem doneTo_sum_i {L : List J4} {p : List P3} {i : Nat} (hi : i < L.length) : ∀ m, (∀ k, k < m → OkPc L p k) → (doneTo L.length p (m)).getD i 0 = sumF (fun k => if (p.getD k p0).job.toNat = i then (p.getD k p0).to - (p.getD k p0).fr else 0) m
  | 0, _ => by show (List.replicate L.length (0 : Int)).getD i 0 = 0; rw [List.getD_eq_getElem?_getD, List.getElem?_replicate, if_pos hi]; rfl
  | m + 1, h => by
    have hk := h m (by omega)
    rw [doneTo, sumF, ← doneTo_sum_i hi m (fun k hk => h k (by omega)), getD_set_i _ _ _ _ _ (by rw [doneTo_len]; have := hk.ja; have := hk.jb; omega)]
    by_cases e : i = (p.getD m p0).job.toNat
    · rw [if_pos e, if_pos e.symm, ← e]
    · rw [if_neg e, if_neg (fun h => e h.symm)]; omega
theorem dn_sum (p : List P3) (t : Int) (i : Nat) : ∀ m, dn p t i m = sumF (fun k => if (p.getD k p0).job.toNat = i then max 0 (min (p.getD k p0).to t - (p.getD k p0).fr) else 0) m
  | 0 => rfl
  | m + 1 => by rw [dn, sumF, dn_sum p t i m]
/-- Which piece holds time t. -/
def cov (p : List P3) (t : Int) (m : Nat) : Prop := ∃ k, k < m ∧ (p.getD k p0).fr ≤ t ∧ t < (p.getD k p0).to
theorem to_le {L : List J4} {p : List P3} : ∀ d k, (∀ j, j ≤ k + d → OkPc L p j) → d ≠ 0 → (p.getD k p0).to ≤ (p.getD (k + d) p0).fr
  | 0, k, _, h => absurd rfl h
  | d + 1, k, h, _ => by
    have h1 := (h (k + d + 1) (by omega)).prev (by omega)
    rw [show k + d + 1 - 1 = k + d by omega] at h1
    by_cases e : d = 0
    · subst e; exact h1.1
    · have h2 := to_le d k (fun j hj => h j (by omega)) e
      have h3 := (h (k + d) (by omega)).lt
      show _ ≤ (p.getD (k + d + 1) p0).fr
      omega
theorem cov_one {L : List J4} {p : List P3} (h : ∀ k, k < p.length → OkPc L p k) {t : Int} {k k' : Nat} (hk : k < p.length) (hk' : k' < p.length) (h1 : (p.getD k p0).fr ≤ t ∧ t < (p.getD k p0).to) (h2 : (p.getD k' p0).fr ≤ t ∧ t < (p.getD k' p0).to) : k = k' := by
  rcases Nat.lt_trichotomy k k' with e | e | e
  · have := to_le (L := L) (p := p) (k' - k) k (fun j hj => h j (by omega)) (by omega)
    rw [show k + (k' - k) = k' by omega] at this
    omega
  · exact e
  · have := to_le (L := L) (p := p) (k - k') k' (fun j hj => h j (by omega)) (by omega)
    rw [show k' + (k - k') = k by omega] at this
    omega
def rest (L : List J4) (p : List P3) (t : Nat) (i : Nat) : Int := (L.getD i j0).t - dn p t i p.length
theorem rest_step {L : List J4} (hL : JobsOk L) {p : List P3} (h : WholeP L p) (t : Nat) : (∀ i, i < L.length → rest L p (t + 1) i = rest L p t i) ∨
    ∃ j, j < L.length ∧ (L.getD j j0).r ≤ t ∧ rest L p (t + 1) j = rest L p t j - 1 ∧ ∀ i, i < L.length → i ≠ j → rest L p (t + 1) i = rest L p t i := by
  have hterm : ∀ k, k < p.length → max 0 (min (p.getD k p0).to ((t + 1 : Nat) : Int) - (p.getD k p0).fr) = max 0 (min (p.getD k p0).to (t : Int) - (p.getD k p0).fr) + if (p.getD k p0).fr ≤ (t : Int) ∧ (t : Int) < (p.getD k p0).to then 1 else 0 := fun k hk => by
    have := (h.pcs k hk).lt
    split <;> (push_cast; omega)
  by_cases hc : cov p t p.length
  · right
    obtain ⟨k, hk, hk1, hk2⟩ := hc
    have hok := h.pcs k hk
    refine ⟨(p.getD k p0).job.toNat, by have := hok.ja; have := hok.jb; omega, by have := hok.rel; omega, ?_, fun i hi hne => ?_⟩
    · rw [rest, rest, dn_sum, dn_sum]
      have h1 := sumF_one (f := fun k' => if (p.getD k' p0).job.toNat = (p.getD k p0).job.toNat then max 0 (min (p.getD k' p0).to ((t + 1 : Nat) : Int) - (p.getD k' p0).fr) else 0) (g := fun k' => if (p.getD k' p0).job.toNat = (p.getD k p0).job.toNat then max 0 (min (p.getD k' p0).to (t : Int) - (p.getD k' p0).fr) else 0) (i := k) p.length (fun j hj hne => by
        show (if _ then _ else _) = (if _ then _ else _)
        rw [hterm j hj, if_neg (fun hh => hne (cov_one h.pcs hj hk hh ⟨hk1, hk2⟩)), Int.add_zero])
      rw [h1, if_pos hk, if_pos rfl, if_pos rfl, hterm k hk, if_pos ⟨hk1, hk2⟩]
      omega
    · rw [rest, rest, dn_sum, dn_sum]
      congr 1
      refine sumF_congr _ fun j hj => ?_
      by_cases e : (p.getD j p0).job.toNat = i
      · rw [if_pos e, if_pos e, hterm j hj, if_neg (fun hh => hne (by rw [← e, cov_one h.pcs hj hk hh ⟨hk1, hk2⟩])), Int.add_zero]
      · rw [if_neg e, if_neg e]
  · left
    intro i hi
    rw [rest, rest, dn_sum, dn_sum]
    congr 1
    refine sumF_congr _ fun j hj => ?_
    rw [hterm j hj, if_neg (fun hh => hc ⟨j, hj, hh⟩), Int.add_zero]
theorem rest_zero {L : List J4} (hL : JobsOk L) {p : List P3} (h : WholeP L p) (i : Nat) : rest L p 0 i = (L.getD i j0).t := by
  rw [rest, dn_sum]
  have : sumF (fun k => if (p.getD k p0).job.toNat = i then max 0 (min (p.getD k p0).to ((0 : Nat) : Int) - (p.getD k p0).fr) else 0) p.length = sumF (fun _ => 0) p.length := sumF_congr _ fun j hj => by
    have h1 := ok_from hL (h.pcs j hj)
    have h2 := (h.pcs j hj).lt
    split
    · omega
    · rfl
  rw [this, sumF_zero]; omega
theorem rest_sum {L : List J4} {p : List P3} (h : WholeP L p) (t i : Nat) (hi : i < L.length) : rest L p t i = sumF (fun k => if (p.getD k p0).job.toNat = i then (p.getD k p0).to - (p.getD k p0).fr - max 0 (min (p.getD k p0).to (t : Int) - (p.getD k p0).fr) else 0) p.length := by
  have h1 := h.all i hi
  rw [doneTo_sum_i hi _ h.pcs] at h1
  rw [rest, ← h1, dn_sum]
  have h2 := sumF_add (fun k => if (p.getD k p0).job.toNat = i then max 0 (min (p.getD k p0).to (t : Int) - (p.getD k p0).fr) else 0) (fun k => if (p.getD k p0).job.toNat = i then (p.getD k p0).to - (p.getD k p0).fr - max 0 (min (p.getD k p0).to (t : Int) - (p.getD k p0).fr) else 0) p.length
  have h3 := sumF_congr (f := fun k => (if (p.getD k p0).job.toNat = i then max 0 (min (p.getD k p0).to (t : Int) - (p.getD k p0).fr) else 0) + (if (p.getD k p0).job.toNat = i then (p.getD k p0).to - (p.getD k p0).fr - max 0 (min (p.getD k p0).to (t : Int) - (p.getD k p0).fr) else 0)) (g := fun k => if (p.getD k p0).job.toNat = i then (p.getD k p0).to - (p.getD k p0).fr else 0) p.length (fun j hj => by
    split <;> omega)
  omega
theorem fin_some {L : List J4} {p : List P3} {i : Nat} : ∀ m, (∀ k, k < m → OkPc L p k) → 0 < (finTo L.length p m).getD i 0 → ∃ k, k < m ∧ (p.getD k p0).job.toNat = i ∧ (p.getD k p0).to = (finTo L.length p m).getD i 0
  | 0, _, h => by
    exfalso
    rw [finTo, List.getD_eq_getElem?_getD, List.getElem?_replicate] at h
    split at h <;> simp at h
  | m + 1, h, hp => by
    have hk := h m (by omega)
    rw [finTo, getD_set_i _ _ _ _ _ (by rw [finTo_len]; have := hk.ja; have := hk.jb; omega)] at hp ⊢
    by_cases e : i = (p.getD m p0).job.toNat
    · rw [if_pos e]; exact ⟨m, by omega, e.symm, rfl⟩
    · rw [if_neg e] at hp ⊢
      obtain ⟨k, hk1, hk2, hk3⟩ := fin_some m (fun k hk => h k (by omega)) hp
      exact ⟨k, by omega, hk2, hk3⟩
theorem rest_pos {L : List J4} (hL : JobsOk L) {p : List P3} (h : WholeP L p) (t i : Nat) (hi : i < L.length) : 0 < rest L p t i ↔ (t : Int) < (finN L.length p).getD i 0 := by
  rw [rest_sum h t i hi]
  constructor
  · intro h1
    obtain ⟨k, hk, h2⟩ := sumF_pos _ h1
    have h3 := fin_ge hL p.length h.pcs (Nat.le_refl _) k hk
    have h4 := (h.pcs k hk).lt
    split at h2
    · rename_i e
      rw [e] at h3
      rw [finN]
      omega
    · omega
  · intro h1
    obtain ⟨k, hk, h2, h3⟩ := fin_some (i := i) p.length h.pcs (by rw [finN] at h1; omega)
    have h4 := (h.pcs k hk).lt
    have h5 := sumF_ge (f := fun k => if (p.getD k p0).job.toNat = i then (p.getD k p0).to - (p.getD k p0).fr - max 0 (min (p.getD k p0).to (t : Int) - (p.getD k p0).fr) else 0) p.length (fun j hj => by
      have := (h.pcs j hj).lt
      show 0 ≤ (if (p.getD j p0).job.toNat = i then (p.getD j p0).to - (p.getD j p0).fr - max 0 (min (p.getD j p0).to (t : Int) - (p.getD j p0).fr) else 0)
      split <;> omega) k hk
    simp only [if_pos h2] at h5
    rw [finN] at h1
    omega
theorem rest_nonneg {L : List J4} (hL : JobsOk L) {p : List P3} (h : WholeP L p) (t i : Nat) (hi : i < L.length) : 0 ≤ rest L p t i := by
  rw [rest_sum h t i hi]
  refine sumF_nonneg _ fun j hj => ?_
  have := (h.pcs j hj).lt
  split <;> omega

/-! No time has fewer jobs left. -/
def cardR (R : Nat → Bool) (n : Nat) : Int := sumF (fun i => if R i then 1 else 0) n
def outR (R : Nat → Bool) (x : Nat → Int) (n : Nat) : Int := sumF (fun i => if R i then 0 else x i) n
theorem early {L : List J4} (hL : JobsOk L) {p : List P3} (h : WholeP L p) : ∀ t : Nat, (∀ i, i < L.length → (t : Int) < (L.getD i j0).r → rest L p t i = (L.getD i j0).t ∧ leftAt true L t i = (L.getD i j0).t)
  | 0, i, hi, _ => ⟨rest_zero hL h i, left_zero true L i⟩
  | t + 1, i, hi, hr => by
    obtain ⟨h1, h2⟩ := early hL h t i hi (by push_cast at hr; omega)
    constructor
    · rcases rest_step hL h t with hs | ⟨j, hj, hjr, _, hs⟩
      · rw [hs i hi]; exact h1
      · rw [hs i hi (fun e => by subst e; push_cast at hr; omega)]; exact h1
    · rcases sched_cases true L t with ⟨e, _⟩ | ⟨j, hj, e, hjr, _, _⟩
      · rw [left_idle e]; exact h2
      · rw [left_work hL e hj, if_neg (fun e2 => by subst e2; push_cast at hr; omega)]; exact h2
theorem dom {L : List J4} (hL : JobsOk L) {p : List P3} (h : WholeP L p) : ∀ t : Nat, ∀ R : Nat → Bool, ∃ R' : Nat → Bool, (∀ i, i < L.length → (t : Int) < (L.getD i j0).r → R' i = R i) ∧ cardR R' L.length ≤ cardR R L.length ∧ outR R' (leftAt true L t) L.length ≤ outR R (rest L p t) L.length
  | 0, R => ⟨R, fun _ _ _ => rfl, Int.le_refl _, by
      refine sumF_le _ fun i hi => ?_
      rw [rest_zero hL h i, left_zero]; exact Int.le_refl _⟩
  | t + 1, R => by
    obtain ⟨R', h1, h2, h3⟩ := dom hL h t R
    have hx0 : ∀ i, i < L.length → 0 ≤ leftAt true L t i := fun i hi => (left_bd hL t i hi).1
    have hxm : ∀ i, leftAt true L (t + 1) i ≤ leftAt true L t i := fun i => left_le_succ hL t i
    have hless : ∀ R'' : Nat → Bool, outR R'' (leftAt true L (t + 1)) L.length ≤ outR R'' (leftAt true L t) L.length := fun R'' => sumF_le _ fun i hi => by
      have := hxm i
      split <;> omega
    have hu : ∀ R'' : Nat → Bool, (∀ i, i < L.length → (t : Int) < (L.getD i j0).r → R'' i = R i) → ∀ i, i < L.length → ((t + 1 : Nat) : Int) < (L.getD i j0).r → R'' i = R i := fun R'' hh i hi hr => hh i hi (by push_cast at hr; omega)
    rcases rest_step hL h t with hs | ⟨j, hj, hjr, hj1, hs⟩
    · refine ⟨R', hu R' h1, h2, Int.le_trans (hless R') (Int.le_trans h3 (Int.le_of_eq ?_))⟩
      exact (sumF_congr _ fun i hi => by rw [hs i hi]).symm
    · by_cases hjR : R j = true
      · refine ⟨R', hu R' h1, h2, Int.le_trans (hless R') (Int.le_trans h3 (Int.le_of_eq ?_))⟩
        refine (sumF_congr _ fun i hi => ?_).symm
        by_cases e : i = j
        · subst e; rw [if_pos hjR, if_pos hjR]
        · rw [hs i hi e]
      · have hdrop : outR R (rest L p (t + 1)) L.length = outR R (rest L p t) L.length - 1 := by
          have h4 : outR R (rest L p (t + 1)) L.length = outR R (rest L p t) L.length + if j < L.length then (if R j = true then 0 else rest L p (t + 1) j) - (if R j = true then 0 else rest L p t j) else 0 := sumF_one L.length (fun i hi hne => by
            show (if _ then _ else _) = (if _ then _ else _)
            rw [hs i hi hne])
          rw [if_pos hj, if_neg hjR, if_neg hjR, hj1] at h4
          omega
        by_cases hlt : outR R' (leftAt true L t) L.length ≤ outR R (rest L p t) L.length - 1
        · exact ⟨R', hu R' h1, h2, by rw [hdrop]; exact Int.le_trans (hless R') hlt⟩
        · -- the same work: somebody who is released and not in R' has work left
          have heq : outR R' (leftAt true L t) L.length = outR R (rest L p t) L.length := by omega
          have hjpos : 1 ≤ rest L p t j := by have := rest_nonneg hL h (t + 1) j hj; omega
          have hi0 : ∃ i, i < L.length ∧ (L.getD i j0).r ≤ t ∧ R' i ≠ true ∧ 0 < leftAt true L t i := by
            refine Classical.byContradiction fun hno => ?_
            have h5 : outR R' (leftAt true L t) L.length ≤ sumF (fun i => if R i then 0 else if (t : Int) < (L.getD i j0).r then rest L p t i else 0) L.length := sumF_le _ fun i hi => by
              by_cases hr : (t : Int) < (L.getD i j0).r
              · obtain ⟨e1, e2⟩ := early hL h t i hi hr
                show (if R' i = true then _ else _) ≤ (if R i = true then _ else _)
                rw [h1 i hi hr, e2, if_pos hr, e1]; exact Int.le_refl _
              · have h6 : (if R' i = true then 0 else leftAt true L t i) ≤ 0 := by
                  by_cases e : R' i = true
                  · rw [if_pos e]; exact Int.le_refl _
                  · rw [if_neg e]
                    refine Int.not_lt.1 fun h7 => hno ⟨i, hi, by omega, e, h7⟩
                show (if R' i = true then _ else _) ≤ (if R i = true then _ else _)
                rw [if_neg hr, show (if R i = true then (0 : Int) else 0) = 0 from by split <;> rfl]
                exact h6
            have h6 : outR R (rest L p t) L.length = sumF (fun i => if i = j then 0 else if R i then 0 else rest L p t i) L.length + if j < L.length then (if R j = true then 0 else rest L p t j) - (if j = j then 0 else if R j then 0 else rest L p t j) else 0 := sumF_one L.length (fun i hi hne => by
              show _ = (if _ then _ else _)
              rw [if_neg hne])
            have h7 : sumF (fun i => if R i then 0 else if (t : Int) < (L.getD i j0).r then rest L p t i else 0) L.length ≤ sumF (fun i => if i = j then 0 else if R i then 0 else rest L p t i) L.length := sumF_le _ fun i hi => by
              have := rest_nonneg hL h t i hi
              by_cases e : i = j
              · subst e
                rw [if_pos rfl, if_neg hjR, if_neg (by omega)]; exact Int.le_refl _
              · rw [if_neg e]
                split
                · exact Int.le_refl _
                · split <;> omega
            rw [if_pos hj, if_neg hjR, if_pos rfl] at h6
            omega
          obtain ⟨i, hi, hir, hiR, hix⟩ := hi0
          rcases sched_cases true L t with ⟨e, hno⟩ | ⟨s, hs9, e, hsr, hsx, hmin⟩
          · exact absurd ⟨hir, hix⟩ (hno i hi)
          · have hle : leftAt true L t s ≤ leftAt true L t i := hmin i hi hir hix
            have hstep : ∀ R'' : Nat → Bool, R'' s ≠ true → outR R'' (leftAt true L (t + 1)) L.length = outR R'' (leftAt true L t) L.length - 1 := fun R'' hR => by
              have h4 : outR R'' (leftAt true L (t + 1)) L.length = outR R'' (leftAt true L t) L.length + if s < L.length then (if R'' s = true then 0 else leftAt true L (t + 1) s) - (if R'' s = true then 0 else leftAt true L t s) else 0 := sumF_one L.length (fun i hi hne => by
                show (if _ then _ else _) = (if _ then _ else _)
                rw [left_work hL e hs9, if_neg hne])
              rw [if_pos hs9, if_neg hR, if_neg hR, left_work hL e hs9, if_pos rfl] at h4
              omega
            by_cases hsR : R' s = true
            · have hsi : s ≠ i := fun e2 => hiR (e2 ▸ hsR)
              refine ⟨fun k => if k = s then false else if k = i then true else R' k, hu _ fun k hk hr => ?_, ?_, ?_⟩
              · show (if k = s then false else if k = i then true else R' k) = R k
                rw [if_neg (fun e2 => by subst e2; omega), if_neg (fun e2 => by subst e2; omega)]
                exact h1 k hk hr
              · -- one out, one in
                have c1 : cardR (fun k => if k = s then false else if k = i then true else R' k) L.length = cardR (fun k => if k = i then true else R' k) L.length + if s < L.length then (if (if s = s then false else if s = i then true else R' s) = true then 1 else 0) - (if (if s = i then true else R' s) = true then 1 else 0) else 0 := sumF_one L.length (fun k hk hne => by
                  show (if (if k = s then false else if k = i then true else R' k) = true then (1 : Int) else 0) = (if (if k = i then true else R' k) = true then 1 else 0)
                  rw [if_neg hne])
                have c2 : cardR (fun k => if k = i then true else R' k) L.length = cardR R' L.length + if i < L.length then (if (if i = i then true else R' i) = true then 1 else 0) - (if R' i = true then 1 else 0) else 0 := sumF_one L.length (fun k hk hne => by
                  show (if (if k = i then true else R' k) = true then (1 : Int) else 0) = (if R' k = true then 1 else 0)
                  rw [if_neg hne])
                rw [if_pos hs9, if_pos rfl, if_neg (by simp), if_neg hsi, if_pos hsR] at c1
                rw [if_pos hi, if_pos rfl, if_pos rfl, if_neg hiR] at c2
                omega
              · have c1 : outR (fun k => if k = s then false else if k = i then true else R' k) (leftAt true L t) L.length = outR (fun k => if k = i then true else R' k) (leftAt true L t) L.length + if s < L.length then (if (if s = s then false else if s = i then true else R' s) = true then 0 else leftAt true L t s) - (if (if s = i then true else R' s) = true then 0 else leftAt true L t s) else 0 := sumF_one L.length (fun k hk hne => by
                  show (if (if k = s then false else if k = i then true else R' k) = true then (0 : Int) else leftAt true L t k) = (if (if k = i then true else R' k) = true then 0 else leftAt true L t k)
                  rw [if_neg hne])
                have c2 : outR (fun k => if k = i then true else R' k) (leftAt true L t) L.length = outR R' (leftAt true L t) L.length + if i < L.length then (if (if i = i then true else R' i) = true then 0 else leftAt true L t i) - (if R' i = true then 0 else leftAt true L t i) else 0 := sumF_one L.length (fun k hk hne => by
                  show (if (if k = i then true else R' k) = true then (0 : Int) else leftAt true L t k) = (if R' k = true then 0 else leftAt true L t k)
                  rw [if_neg hne])
                rw [if_pos hs9, if_pos rfl, if_neg (by simp), if_neg hsi, if_pos hsR] at c1
                rw [if_pos hi, if_pos rfl, if_pos rfl, if_neg hiR] at c2
                rw [hstep _ (by show ¬ (if s = s then false else _) = true; rw [if_pos rfl]; simp), hdrop]
                omega
            · exact ⟨R', hu R' h1, h2, by rw [hstep R' hsR, hdrop]; omega⟩
theorem fewer {L : List J4} (hL : JobsOk L) {p : List P3} (h : WholeP L p) (t : Nat) : sumF (fun i => if 0 < leftAt true L t i then 1 else 0) L.length ≤ sumF (fun i => if 0 < rest L p t i then 1 else 0) L.length := by
  obtain ⟨R', h1, h2, h3⟩ := dom hL h t (fun i => decide (0 < rest L p t i))
  have h4 : outR (fun i => decide (0 < rest L p t i)) (rest L p t) L.length = 0 := by
    unfold outR
    rw [sumF_congr (g := fun _ => 0) _ (fun i hi => by
      have := rest_nonneg hL h t i hi
      show (if decide (0 < rest L p t i) = true then _ else _) = _
      by_cases e : 0 < rest L p t i
      · rw [if_pos (decide_eq_true e)]
      · rw [if_neg (by simpa using e)]; omega)]
    exact sumF_zero _
  rw [h4] at h3
  have h5 : ∀ i, i < L.length → R' i ≠ true → leftAt true L t i ≤ 0 := fun i hi hR => by
    have h6 := sumF_ge (f := fun i => if R' i then 0 else leftAt true L t i) L.length (fun k hk => by
      have := (left_bd (sh := true) hL t k hk).1
      show 0 ≤ (if R' k = true then 0 else leftAt true L t k)
      split <;> omega) i hi
    simp only [if_neg hR] at h6
    unfold outR at h3
    omega
  have h6 : sumF (fun i => if 0 < leftAt true L t i then (1 : Int) else 0) L.length ≤ cardR R' L.length := sumF_le _ fun i hi => by
    show (if _ then _ else _) ≤ (if _ then _ else _)
    by_cases e : R' i = true
    · rw [if_pos e]; split <;> omega
    · rw [if_neg e, if_neg (by have := h5 i hi e; omega)]; exact Int.le_refl _
  have h7 : cardR (fun i => decide (0 < rest L p t i)) L.length = sumF (fun i => if 0 < rest L p t i then (1 : Int) else 0) L.length := sumF_congr _ fun i hi => by
    show (if decide (0 < rest L p t i) = true then _ else _) = _
    by_cases e : 0 < rest L p t i
    · rw [if_pos (decide_eq_true e), if_pos e]
    · rw [if_neg (by simpa using e), if_neg e]
  omega
theorem left_pos {L : List J4} (hL : JobsOk L) (t i : Nat) (hi : i < L.length) : 0 < leftAt true L t i ↔ (t : Int) < (finN L.length (planN true L)).getD i 0 := by
  rcases end_last (sh := true) hL i hi 300 with ⟨h1, _⟩ | ⟨T, hT, h1, h2, h3⟩
  · have := left_end (sh := true) hL (Nat.le_refl _) i hi
    have := (hL.at_ i hi).1
    omega
  · have h4 := left_end (sh := true) hL (Nat.le_refl _) i hi
    have h5 : (finN L.length (planN true L)).getD i 0 = (T : Int) + 1 := h2
    rw [h5]
    have hT1 : 0 < leftAt true L T i := by
      rcases sched_cases true L T with ⟨e, _⟩ | ⟨j, hj, e, _, h6, _⟩
      · omega
      · obtain rfl : j = i := by omega
        exact h6
    constructor
    · intro h6
      refine Int.not_le.1 fun h7 => ?_
      have := left_mono (sh := true) hL (show T + 1 ≤ t by omega) i
      omega
    · intro h6
      have := left_mono (sh := true) hL (show t ≤ T by omega) i
      omega
/-- No whole plan has a lesser sum of ends. -/
theorem short_best {L : List J4} (hL : JobsOk L) {p : List P3} (h : WholeP L p) : sumF (fun i => (finN L.length (planN true L)).getD i 0) L.length ≤ sumF (fun i => (finN L.length p).getD i 0) L.length := by
  have hsum : ∀ (e : Nat → Int), (∀ i, i < L.length → 0 ≤ e i ∧ e i ≤ 1001) → sumF e L.length = sumF (fun t => sumF (fun i => if (t : Int) < e i then 1 else 0) L.length) 1001 := fun e he => by
    rw [← sumF_swap (fun i t => if (t : Int) < e i then 1 else 0) L.length 1001]
    refine sumF_congr _ fun i hi => ?_
    have h1 := he i hi
    have h2 := sumF_first (e i).toNat 1001
    rw [sumF_congr (g := fun t : Nat => if t < (e i).toNat then 1 else 0) 1001 (fun t ht => by
      by_cases e2 : (t : Int) < e i
      · rw [if_pos e2, if_pos (by omega)]
      · rw [if_neg e2, if_neg (by omega)]), h2]
    split <;> omega
  have hb := whole_to hL h
  have hb2 := whole_to hL (planN_whole true hL)
  rw [hsum _ (fun i hi => by have := finTo_bd (n := L.length) (p := planN true L) (m := 1000) (by omega) (fun q hq => (hb2.2 q hq).2.2) _ (Nat.le_refl _) i; rw [finN]; omega),
    hsum _ (fun i hi => by have := finTo_bd (n := L.length) (p := p) (m := 1000) (by omega) (fun q hq => (hb.2 q hq).2.2) _ (Nat.le_refl _) i; rw [finN]; omega)]
  refine sumF_le _ fun t ht => ?_
  have h1 := fewer hL h t
  rw [sumF_congr (f := fun i => if 0 < leftAt true L t i then (1 : Int) else 0) (g := fun i => if (t : Int) < (finN L.length (planN true L)).getD i 0 then 1 else 0) _ (fun i hi => by simp only [left_pos hL t i hi]),
    sumF_congr (f := fun i => if 0 < rest L p t i then (1 : Int) else 0) (g := fun i => if (t : Int) < (finN L.length p).getD i 0 then 1 else 0) _ (fun i hi => by simp only [rest_pos hL h t i hi])] at h1
  exact h1
end Go.Proofs.Ytiadineakhcclaa

/-
  dates (plain): a set that fits, along any sorted row and at once.
-/
namespace Go.Proofs.Ytiadineakhcclaa
open Go.RowKit
set_option linter.unusedVariables false
set_option linter.unusedSimpArgs false

/-- When the first k of the row s are done, those of S alone. -/
def nowF (L : List J4) (S : Nat) (s : Nat → Nat) : Nat → Int
  | 0 => 0
  | k + 1 => if S.testBit (s k) then nowF L S s k + (L.getD (s k) j0).t else nowF L S s k
/-- The first k of the row s are on time, those of S alone. -/
def FitS (L : List J4) (S : Nat) (s : Nat → Nat) (k : Nat) : Prop := ∀ a, a < k → S.testBit (s a) = true → nowF L S s (a + 1) ≤ (L.getD (s a) j0).d
theorem nowF_bd {L : List J4} (hL : JobsOk L) {S : Nat} {s : Nat → Nat} : ∀ k, (∀ a, a < k → s a < L.length) → 0 ≤ nowF L S s k ∧ nowF L S s k ≤ 20 * k
  | 0, _ => ⟨Int.le_refl _, by simp [nowF]⟩
  | k + 1, h => by
      obtain ⟨h1, h2⟩ := nowF_bd (S := S) hL k fun a ha => h a (by omega)
      have h3 := hL.at_ (s k) (h k (by omega))
      unfold nowF
      split
      · constructor <;> push_cast <;> omega
      · constructor <;> push_cast <;> omega
/-- a is not behind b. -/
def leK (key : Nat → Int) (a b : Nat) : Prop := ltK key a b ∨ a = b
instance (key : Nat → Int) (a b : Nat) : Decidable (ltK key a b) := by unfold ltK; infer_instance
instance (key : Nat → Int) (a b : Nat) : Decidable (leK key a b) := by unfold leK; infer_instance
def due (L : List J4) (a : Nat) : Int := (L.getD a j0).d
/-- The work of S up to b. -/
def workK (L : List J4) (S b : Nat) : Int := sumF (fun j => if S.testBit j = true ∧ leK (due L) j b then (L.getD j j0).t else 0) L.length
def fitB (L : List J4) (S : Nat) : Bool := decide (∀ i, i < L.length → S.testBit i = true → workK L S i ≤ (L.getD i j0).d)

theorem foldr_perm {l l' : List Int} (h : l.Perm l') : l.foldr (· + ·) 0 = l'.foldr (· + ·) 0 := by
  induction h with
  | nil => rfl
  | cons x _ ih => simp [ih]
  | swap x y l => simp; omega
  | trans _ _ h1 h2 => rw [h1, h2]
theorem Sorted0.perm {key : Nat → Int} {s : Nat → Nat} {n : Nat} (h : Sorted0 key id s n n) : ((List.range n).map s).Perm (List.range n) := by
  have hinj : ∀ a b, a < n → b < n → s a = s b → a = b := fun a b ha hb e => by
    rcases Nat.lt_trichotomy a b with h1 | h1 | h1
    · have := h.sorted a b h1 hb; unfold ltK at this; rw [e] at this; omega
    · exact h1
    · have := h.sorted b a h1 ha; unfold ltK at this; rw [e] at this; omega
  have hnd : ((List.range n).map s).Nodup := by
    rw [List.nodup_iff_pairwise_ne, List.pairwise_map]
    refine List.Pairwise.imp_of_mem ?_ List.nodup_range
    intro a b ha hb hne e
    exact hne (hinj a b (List.mem_range.1 ha) (List.mem_range.1 hb) e)
  have hsub : ((List.range n).map s) ⊆ List.range n := fun x hx => by
    obtain ⟨a, ha, rfl⟩ := List.mem_map.1 hx
    obtain ⟨m, hm, e⟩ := h.low a (List.mem_range.1 ha)
    rw [e]; exact List.mem_range.2 hm
  refine (List.perm_ext_iff_of_nodup hnd List.nodup_range).2 fun x => ⟨fun hx => hsub hx, fun hx => ?_⟩
  rcases Classical.em (x ∈ (List.range n).map s) with h1 | h1
  · exact h1
  · have := nodup_le n (x :: (List.range n).map s) (List.nodup_cons.2 ⟨h1, hnd⟩) (fun y hy => by
      rcases List.mem_cons.1 hy with rfl | hy
      · exact List.mem_range.1 hx
      · exact List.mem_range.1 (hsub hy))
    simp at this
    omega
theorem foldr_sumF (f : Nat → Int) : ∀ n, ((List.range n).map f).foldr (· + ·) 0 = sumF f n
  | 0 => rfl
  | n + 1 => by
      have hsn : ∀ (l : List Int) (x : Int), (l ++ [x]).foldr (· + ·) 0 = l.foldr (· + ·) 0 + x := fun l x => by
        induction l with
        | nil => simp
        | cons y l ih => simp at ih ⊢; rw [ih]; omega
      rw [List.range_succ, List.map_append, List.map_singleton, hsn, foldr_sumF f n, sumF]
theorem nowF_work {L : List J4} {S : Nat} {s : Nat → Nat} (h : Sorted0 (due L) id s L.length L.length) {a : Nat} (ha : a < L.length) (hb : S.testBit (s a) = true) : nowF L S s (a + 1) = workK L S (s a) := by
  have hcut : ∀ k, k ≤ L.length → ((List.range k).map fun j => if S.testBit (s j) = true ∧ leK (due L) (s j) (s a) then (L.getD (s j) j0).t else 0).foldr (· + ·) 0 = nowF L S s (min k (a + 1)) := by
    have hsn : ∀ (l : List Int) (x : Int), (l ++ [x]).foldr (· + ·) 0 = l.foldr (· + ·) 0 + x := fun l x => by
      induction l with
      | nil => simp
      | cons y l ih => simp at ih ⊢; rw [ih]; omega
    intro k
    induction k with
    | zero => intro _; rw [Nat.zero_min]; rfl
    | succ k ih =>
      intro hk
      rw [List.range_succ, List.map_append, List.map_singleton, hsn, ih (by omega)]
      by_cases hka : k ≤ a
      · have hle : leK (due L) (s k) (s a) := by
          rcases Nat.lt_or_ge k a with h1 | h1
          · exact .inl (h.sorted k a h1 ha)
          · exact .inr (by rw [show k = a by omega])
        rw [show min k (a + 1) = k by omega, show min (k + 1) (a + 1) = k + 1 by omega]
        show _ = if S.testBit (s k) = true then nowF L S s k + (L.getD (s k) j0).t else nowF L S s k
        by_cases hbk : S.testBit (s k) = true
        · rw [if_pos ⟨hbk, hle⟩, if_pos hbk]
        · rw [if_neg (fun h => hbk h.1), if_neg hbk]; omega
      · have hnl : ¬ leK (due L) (s k) (s a) := fun hle => by
          have h1 := h.sorted a k (by omega) (by omega)
          unfold leK ltK at hle
          unfold ltK at h1
          rcases hle with h2 | h2
          · omega
          · rw [h2] at h1; omega
        rw [if_neg (fun h => hnl h.2), show min k (a + 1) = a + 1 by omega, show min (k + 1) (a + 1) = a + 1 by omega]; omega
  have h1 := hcut L.length (Nat.le_refl _)
  rw [show min L.length (a + 1) = a + 1 by omega] at h1
  rw [← h1]
  unfold workK
  rw [← foldr_sumF]
  have h2 := (h.perm.map fun j => if S.testBit j = true ∧ leK (due L) j (s a) then (L.getD j j0).t else 0)
  rw [List.map_map] at h2
  exact foldr_perm h2
theorem fitS_fitB {L : List J4} {S : Nat} {s : Nat → Nat} (h : Sorted0 (due L) id s L.length L.length) : FitS L S s L.length ↔ fitB L S = true := by
  rw [fitB, decide_eq_true_iff]
  constructor
  · intro hf i hi hb
    have hm : i ∈ (List.range L.length).map s := h.perm.mem_iff.2 (List.mem_range.2 hi)
    obtain ⟨a, ha, rfl⟩ := List.mem_map.1 hm
    have ha := List.mem_range.1 ha
    rw [← nowF_work h ha hb]
    exact hf a ha hb
  · intro hf a ha hb
    rw [nowF_work h ha hb]
    obtain ⟨m, hm, e⟩ := h.low a ha
    exact hf (s a) (by rw [e]; exact hm) hb
end Go.Proofs.Ytiadineakhcclaa

/-
  dates: fits.
-/
namespace Go.Proofs.Ytiadineakhcclaa
open Go.RowKit
set_option linter.unusedVariables false
set_option linter.unusedSimpArgs false

set_option maxRecDepth 100000 in
set_option maxHeartbeats 1600000 in
theorem fits_any (A : Option Addr) (n c S : Nat) (L : List J4) (w : World) (hn : L.length = n) (hL : JobsOk L) (hS : S < 256) (hA : JobsA w w.heap.size A L) :
    Calls Try.prog 84 #[.slice A n c, .int .i64 (S : Nat)] w fun e w' => e = .returned (.bool (fitB L S)) ∧ Below w.heap.size w w' := by
  have h8 : n ≤ 8 := by rw [← hn]; exact hL.le
  have h1 : 1 ≤ n := by rw [← hn]; exact hL.pos
  have HD := hide (byDue_any A n c L w hn hL hA)
  have HA := hide hA
  have HL := hide hL
  have HN := hide hn
  have hS62 : S < 2 ^ 62 := Nat.lt_trans hS (by decide)
  clear hA hL hn
  go_enter Try.func84, Try.ntmps84
  go_wp2_with (go_at_call 89; refine (HD.out).mono ?_; rintro e w1 ⟨s, X, c', h1, rfl, h2, h3, h4⟩; have H1 := hide h1; have H3 := hide h3; have H4 := hide h4; clear h1 h3 h4)
  go_loopw [5, 11] (fun v5 v11 wr => ∃ k : Nat, k ≤ n ∧ v11 = .int .i64 k ∧ v5 = .int .i64 (nowF L S s k) ∧ Hid (FitS L S s k) ∧ Below w1.heap.size w1 wr) (fun _ v11 _ => n - (intOf v11).toNat)
  case atStart => exact ⟨0, Nat.zero_le _, rfl, rfl, hide (fun a ha => by omega), Below.refl _ _⟩
  case round =>
    obtain ⟨k, hk, rfl, rfl, HF, hb⟩ := hrel
    have HB := hide hb
    by_cases hlt : k < n
    · have hkn : (k : Int) < (n : Int) := by omega
      have HLow : ∀ a, a < n → s a < n := fun a ha => by
        obtain ⟨m, hm, e⟩ := H1.out.low a ha
        rw [e]; exact hm
      have hbd := nowF_bd (S := S) HL.out (s := s) k (fun a ha => by rw [HN.out]; exact HLow a (by omega))
      have hjb := HL.out.at_ (s k) (by rw [HN.out]; exact HLow k hlt)
      have hsk : s k < n := HLow k hlt
      have HS := hide (show nowF L S s (k + 1) = if S.testBit (s k) then nowF L S s k + (L.getD (s k) j0).t else nowF L S s k from rfl)
      obtain ⟨bx, ox, x1, rfl, hbx, hcx, hxx⟩ := (H3.out.next hb).at_ (k := k) (by simp [up]; omega)
      have e1 : x1 = (s k : Nat) := by
        have := hxx.out
        rw [up_getD] at this
        rw [← this]; congr 1; rw [List.getD_eq_getElem?_getD]; simp [hlt]
      obtain ⟨q, o, t1, r1, d1, u1, rfl, hq, ha0, ha1, ha2, ha3, hx1⟩ := ((HA.out.next H4.out).next hb).at_ (k := s k) (by rw [HN.out]; exact hsk)
      rw [hx1.out] at hjb HS
      have hjb0 : 1 ≤ t1 ∧ t1 ≤ 20 ∧ 0 ≤ d1 ∧ d1 ≤ 200 := ⟨hjb.1, hjb.2.1, hjb.2.2.2.2.1, hjb.2.2.2.2.2.1⟩
      have HX := hide hx1.out
      have HK := hide (show ∃ i, i = s k from ⟨_, rfl⟩)
      obtain ⟨g, hg⟩ : ∃ g, g = s k := ⟨_, rfl⟩
      obtain ⟨N0, hN0⟩ : ∃ N0, N0 = nowF L S s k := ⟨_, rfl⟩
      rw [← hg] at hsk HS e1 ha0 ha2
      rw [← hN0] at hbd HS ⊢
      have hkk : k ≤ 8 := by omega
      have hgn : (g : Int) < (n : Int) := by omega
      have hS0 := shr_test0 S g hS62
      subst e1
      have HG := hide hg
      have HN0 := hide hN0
      clear hb hxx ha1 ha3 hx1 hg hN0 hjb HLow
      cases hbt : S.testBit g with
      | false =>
        rw [hbt] at hS0 HS
        have HT := hide hbt
        clear hbt ha0 ha2
        go_wp2
        go_roundw
        case rel =>
          refine ⟨k + 1, by omega, by go_num, by rw [HS.out]; simp, hide (fun a ha hb => ?_), HB.out⟩
          rcases Nat.lt_or_ge a k with h | h
          · exact HF.out a h hb
          · obtain rfl : a = k := by omega
            rw [← HG.out, HT.out] at hb; cases hb
        case measure => simp [intOf] <;> omega
      | true =>
        rw [hbt] at hS0 HS
        have HT := hide hbt
        clear hbt
        have HS1 : Hid (nowF L S s (k + 1) = N0 + t1) := hide (by rw [HS.out]; simp)
        have hnt : 0 ≤ N0 + t1 ∧ N0 + t1 ≤ 180 := by omega
        by_cases hgt : d1 < N0 + t1
        · have HGT := hide hgt
          go_wp2
          go_ret
          refine ⟨?_, H4.out.trans (HB.out.mono H4.out.size)⟩
          have hf : fitB L S = false := by
            rcases Bool.eq_false_or_eq_true (fitB L S) with h | h
            · have h2 := (fitS_fitB (HN.out.symm ▸ H1.out)).2 h k (by rw [HN.out]; exact hlt) (by rw [← HG.out]; exact HT.out)
              rw [HS1.out, HX.out] at h2
              exact absurd h2 (by show ¬ (N0 + t1 ≤ d1); have := HGT.out; omega)
            · exact h
          rw [hf]; rfl
        · have HGT := hide hgt
          go_wp2
          go_roundw
          case rel =>
            refine ⟨k + 1, by omega, by go_num, by rw [HS1.out], hide (fun a ha hb => ?_), HB.out⟩
            rcases Nat.lt_or_ge a k with h | h
            · exact HF.out a h hb
            · obtain rfl : a = k := by omega
              rw [HS1.out, HX.out]
              show N0 + t1 ≤ d1
              have := HGT.out; omega
          case measure => simp [intOf] <;> omega
    · obtain rfl : n = k := by omega
      clear hb
      go_wp2
      go_ret
      refine ⟨?_, H4.out.trans (HB.out.mono H4.out.size)⟩
      have := (fitS_fitB (S := S) (HN.out.symm ▸ H1.out)).1 (HN.out.symm ▸ HF.out)
      rw [this]; rfl
end Go.Proofs.Ytiadineakhcclaa

/-
  dates: math/bits.OnesCount of sets below 256.
-/
namespace Go.Proofs.Ytiadineakhcclaa
open Go.RowKit
set_option linter.unusedVariables false
set_option linter.unusedSimpArgs false

set_option maxRecDepth 100000 in
set_option maxHeartbeats 1600000 in
theorem ones64_any (M : Nat) (hM : M < 256) (w : World) : Calls Try.prog 86 #[.int .u64 M] w fun e w' => e = .returned (.int .i64 (cardF 8 M : Nat)) ∧ w = w' := by
  go_enter Try.func86, Try.ntmps86
  go_wp2
  go_ret
  refine ⟨?_, rfl⟩
  refine congrArg Ending.returned ?_
  show Value.int _ _ = Value.int _ _
  refine congrArg (Value.int .i64) ?_
  revert M
  decide +kernel
set_option maxHeartbeats 400000 in
theorem ones_any (M : Nat) (hM : M < 256) (w : World) : Calls Try.prog 73 #[.int .u64 M] w fun e w' => e = .returned (.int .i64 (cardF 8 M : Nat)) ∧ w = w' := by
  have H := hide (ones64_any M hM w)
  go_enter Try.func73, Try.ntmps73
  go_wp2_with (go_at_call 86; refine (H.out).mono ?_; rintro e w1 ⟨rfl, rfl⟩)
  go_ret
  exact ⟨rfl, rfl⟩
set_option maxHeartbeats 400000 in
theorem most1_any (M : Nat) (hM : M < 256) (w : World) : Calls Try.prog 72 #[.int .i64 M] w fun e w' => e = .returned (.int .i64 (cardF 8 M : Nat)) ∧ w = w' := by
  have H := hide (ones_any M hM w)
  go_enter Try.func72, Try.ntmps72
  go_wp2_with (go_at_call 73; refine (H.out).mono ?_; rintro e w1 ⟨rfl, rfl⟩)
  go_ret
  exact ⟨rfl, rfl⟩
end Go.Proofs.Ytiadineakhcclaa

/-
  dates: weight, best.
-/
namespace Go.Proofs.Ytiadineakhcclaa
open Go.RowKit
set_option linter.unusedVariables false
set_option linter.unusedSimpArgs false

def wtN (L : List J4) (S k : Nat) : Int := sumF (fun j => if S.testBit j = true then (L.getD j j0).w else 0) k
theorem wtN_bd {L : List J4} (hL : JobsOk L) (S : Nat) : ∀ k, k ≤ L.length → 0 ≤ wtN L S k ∧ wtN L S k ≤ 20 * k
  | 0, _ => ⟨Int.le_refl _, by simp [wtN, sumF]⟩
  | k + 1, h => by
      obtain ⟨h1, h2⟩ := wtN_bd hL S k (by omega)
      have h3 := hL.at_ k (by omega)
      have e : wtN L S (k + 1) = wtN L S k + if S.testBit k = true then (L.getD k j0).w else 0 := rfl
      rw [e]
      split <;> constructor <;> push_cast <;> omega
set_option maxRecDepth 100000 in
set_option maxHeartbeats 1600000 in
theorem weight_any (A : Option Addr) (n c S : Nat) (L : List J4) (w : World) (hn : L.length = n) (hL : JobsOk L) (hS : S < 256) (hA : JobsA w w.heap.size A L) :
    Calls Try.prog 74 #[.slice A n c, .int .i64 (S : Nat)] w fun e w' => e = .returned (.int .i64 (wtN L S n)) ∧ Below w.heap.size w w' := by
  have h8 : n ≤ 8 := by rw [← hn]; exact hL.le
  have HA := hide hA
  have HL := hide hL
  have HN := hide hn
  have hS62 : S < 2 ^ 62 := Nat.lt_trans hS (by decide)
  clear hA hL hn
  go_enter Try.func74, Try.ntmps74
  go_wp2
  go_loopw [5, 10] (fun v5 v10 wr => ∃ (k : Nat) (y : Int), k ≤ n ∧ v10 = .int .i64 k ∧ v5 = .int .i64 y ∧ Hid (y = wtN L S k) ∧ Below w.heap.size w wr) (fun _ v _ => n - (intOf v).toNat)
  case atStart => exact ⟨0, 0, Nat.zero_le _, rfl, rfl, hide rfl, Below.refl _ _⟩
  case round =>
    obtain ⟨k, y, hk, rfl, rfl, HY, hb2⟩ := hrel
    by_cases hlt : k < n
    · obtain ⟨bj, oj, t, r, d, u, rfl, hbj, hj0, hj1, hj2, hj3, hxj⟩ := (HA.out.next hb2).at_ (k := k) (by rw [HN.out]; exact hlt)
      have hkn : (k : Int) < (n : Int) := by omega
      have hdb := HL.out.at_ k (by rw [HN.out]; exact hlt)
      rw [hxj.out] at hdb
      simp only [] at hdb
      obtain ⟨_, _, _, _, _, _, hdb0, hdb1⟩ := hdb
      have hy := wtN_bd HL.out S k (by rw [HN.out]; omega)
      rw [← HY.out] at hy
      have hkk : (k : Int) ≤ 8 := by omega
      obtain ⟨b, hb⟩ : ∃ b : Int, b = if S.testBit k = true then 1 else 0 := ⟨_, rfl⟩
      obtain ⟨p, hp⟩ : ∃ p : Int, p = if S.testBit k = true then u else 0 := ⟨_, rfl⟩
      have hbit : bits .and .i64 ((S : Int) / 2 ^ k) 1 = b := by rw [hb]; exact shr_bit S k hS62
      have hpb : 0 ≤ p ∧ p ≤ 20 := by rw [hp]; split <;> omega
      have hup : u * b = p := by rw [hb, hp]; split <;> omega
      have HM : Hid (IntKind.i64.wrap (u * b) = p) := by rw [hup, IntKind.wrap_i64]; exact hide (by omega)
      have HP : Hid (IntKind.i64.wrap (y + p) = y + p) := by rw [IntKind.wrap_i64]; exact hide (by omega)
      have HYN : Hid (y + p = wtN L S (k + 1)) := hide (by
        show _ = wtN L S k + if S.testBit k = true then (L.getD k j0).w else 0
        rw [hxj.out, ← HY.out, hp])
      have HBW : Hid (∀ o q, Below w.heap.size w ((wr.alloc o).drewN q)) := fun o q => below_drewN (hb2.alloc hb2.size _) q
      have hm := HM.out
      have hpp := HP.out
      clear hxj hb2 hup hb hp
      go_wp2
      go_quiet (fail)
      go_wp2
      go_roundw
      case rel => exact ⟨k + 1, _, by omega, by go_num, rfl, HYN, HBW.out _ _⟩
      case measure => simp [intOf] <;> omega
    · obtain rfl : n = k := by omega
      have e9 := HY.out
      subst e9
      have HB9 := hide hb2
      clear hb2
      go_wp2
      go_ret
      exact ⟨rfl, HB9.out⟩
end Go.Proofs.Ytiadineakhcclaa

/-
  dates: best, Most, Weigh.
-/
namespace Go.Proofs.Ytiadineakhcclaa
open Go.RowKit
set_option linter.unusedVariables false
set_option linter.unusedSimpArgs false

/-- The least set that fits with the greatest value, of the first k. -/
def bestV (v : Nat → Int) (f : Nat → Bool) : Nat → Nat
  | 0 => 0
  | k + 1 => if v (bestV v f k) < v k ∧ f k = true then k else bestV v f k
theorem bestV_le (v : Nat → Int) (f : Nat → Bool) : ∀ k, bestV v f k ≤ k
  | 0 => Nat.le_refl _
  | k + 1 => by
      have := bestV_le v f k
      unfold bestV
      split <;> omega
theorem pow256 {n : Nat} (h : n ≤ 8) : 2 ^ n ≤ 256 := Nat.pow_le_pow_right (n := 2) (by decide) h
theorem wrap_pow {n : Nat} (h : n ≤ 8) : wrap64 (2 ^ min n 64) = ((2 ^ n : Nat) : Int) := by
  rw [show min n 64 = n by omega]; exact shl_one n (by omega)
theorem goes_most1 : Goes Try.prog 72 := goes_of Try.func72 (by kernel_rfl) (by kernel_rfl)
theorem goes_weight : Goes Try.prog 74 := goes_of Try.func74 (by kernel_rfl) (by kernel_rfl)
set_option maxRecDepth 100000 in
set_option maxHeartbeats 1600000 in
theorem best_most (A : Option Addr) (n c : Nat) (L : List J4) (w : World) (hn : L.length = n) (hL : JobsOk L) (hA : JobsA w w.heap.size A L) :
    Calls Try.prog 71 #[.slice A n c, .func (.func 72) #[] #[]] w fun e w' => e = .returned (.int .i64 (bestV (fun S => (cardF 8 S : Int)) (fitB L) (2 ^ n) : Nat)) ∧ Below w.heap.size w w' := by
  have h8 : n ≤ 8 := by rw [← hn]; exact hL.le
  obtain ⟨v, hv⟩ : ∃ v : Nat → Int, v = (fun S => (cardF 8 S : Int)) := ⟨_, rfl⟩
  have HV : Hid (∀ (w' : World) (S : Nat), Below w.heap.size w w' → S < 256 → Calls Try.prog 72 #[.int .i64 (S : Nat)] w' fun e w'' => e = .returned (.int .i64 (v S)) ∧ Below w.heap.size w w'') := fun w' S hb hS => by
    rw [hv]
    exact (most1_any S hS w').mono fun _ _ h => ⟨h.1, h.2 ▸ hb⟩
  have HF : Hid (∀ (w' : World) (S : Nat), Below w.heap.size w w' → S < 256 → Calls Try.prog 84 #[.slice A n c, .int .i64 (S : Nat)] w' fun e w'' => e = .returned (.bool (fitB L S)) ∧ Below w.heap.size w w'') := fun w' S hb hS =>
    (fits_any A n c S L w' hn hL hS (hA.next hb)).mono fun _ _ h => ⟨h.1, hb.trans (h.2.mono hb.size)⟩
  rw [← hv]
  obtain ⟨N, hN⟩ : ∃ N, N = 2 ^ n := ⟨_, rfl⟩
  have hN8 : N ≤ 256 := by rw [hN]; exact pow256 h8
  have HW : Hid (wrap64 (2 ^ min n 64) = (N : Int)) := by rw [hN]; exact wrap_pow h8
  have HW2 : Hid (wrap64 (2 ^ n) = (N : Int)) := by rw [hN]; exact hide (shl_one n (by omega))
  rw [← hN]
  obtain ⟨f, hf⟩ : ∃ f, f = fitB L := ⟨_, rfl⟩
  rw [← hf] at HF ⊢
  clear hA hL hn hv hN hf
  go_enter Try.func71, Try.ntmps71
  go_wp2
  first | rw [HW.out] | rw [HW2.out]
  go_loopw [5, 10] (fun v5 v10 wr => ∃ (k b : Nat), k ≤ N ∧ v10 = .int .i64 k ∧ v5 = .int .i64 (b : Nat) ∧ Hid (b = bestV v f k) ∧ Below w.heap.size w wr) (fun _ v _ => N - (intOf v).toNat)
  case atStart => exact ⟨0, 0, Nat.zero_le _, rfl, rfl, hide rfl, Below.refl _ _⟩
  case round =>
    obtain ⟨k, b, hk, rfl, rfl, HB, hb⟩ := hrel
    obtain ⟨w1, rfl⟩ : ∃ w1 : World, w1 = wr := ⟨_, rfl⟩
    by_cases hlt : k < N
    · have hkn : (k : Int) < (N : Int) := by omega
      have hb8 : b ≤ k := by rw [HB.out]; exact bestV_le v f k
      have hk8 : k < 256 := by omega
      have HS := hide (show bestV v f (k + 1) = if v (bestV v f k) < v k ∧ f k = true then k else bestV v f k from rfl)
      rw [← HB.out] at HS
      have HC1 := hide (HV.out w1 k hb hk8)
      have HC2 : Hid (∀ w', Below w.heap.size w w' → Calls Try.prog 72 #[.int .i64 (b : Nat)] w' fun e w'' => e = .returned (.int .i64 (v b)) ∧ Below w.heap.size w w'') := fun w' h => HV.out w' b h (by omega)
      have HC3 : Hid (∀ w', Below w.heap.size w w' → Calls Try.prog 84 #[.slice A n c, .int .i64 (k : Nat)] w' fun e w'' => e = .returned (.bool (f k)) ∧ Below w.heap.size w w'') := fun w' h => HF.out w' k h hk8
      obtain ⟨x, hx⟩ : ∃ x, x = v k := ⟨_, rfl⟩
      obtain ⟨y, hy⟩ : ∃ y, y = v b := ⟨_, rfl⟩
      obtain ⟨z, hz⟩ : ∃ z, z = f k := ⟨_, rfl⟩
      rw [← hx] at HC1 HS
      rw [← hy] at HC2 HS
      rw [← hz] at HC3 HS
      clear hx hy hz hb
      by_cases hxy : y < x
      · cases z with
        | true =>
          have HT : Hid (k = bestV v f (k + 1)) := hide (by rw [HS.out, if_pos ⟨hxy, rfl⟩])
          clear HS
          go_wp2_with (first
            | (go_at_call 72; (with_reducible refine (HC1.out).mono ?_); rintro e w2 ⟨rfl, hb2⟩; have HB2 := hide hb2; clear hb2)
            | (go_at_call 72; (with_reducible refine (HC2.out _ HB2.out).mono ?_); rintro e w3 ⟨rfl, hb3⟩; have HB3 := hide hb3; clear hb3)
            | (go_at_call 84; (with_reducible refine (HC3.out _ HB3.out).mono ?_); rintro e w4 ⟨rfl, hb4⟩; have HB4 := hide hb4; clear hb4))
          go_roundw
          case rel => exact ⟨k + 1, k, by omega, by go_num, rfl, HT, HB4.out⟩
          case measure => simp [intOf] <;> omega
        | false =>
          have HT : Hid (b = bestV v f (k + 1)) := hide (by rw [HS.out, if_neg (fun h => by cases h.2)])
          clear HS
          go_wp2_with (first
            | (go_at_call 72; (with_reducible refine (HC1.out).mono ?_); rintro e w2 ⟨rfl, hb2⟩; have HB2 := hide hb2; clear hb2)
            | (go_at_call 72; (with_reducible refine (HC2.out _ HB2.out).mono ?_); rintro e w3 ⟨rfl, hb3⟩; have HB3 := hide hb3; clear hb3)
            | (go_at_call 84; (with_reducible refine (HC3.out _ HB3.out).mono ?_); rintro e w4 ⟨rfl, hb4⟩; have HB4 := hide hb4; clear hb4))
          go_roundw
          case rel => exact ⟨k + 1, b, by omega, by go_num, rfl, HT, HB4.out⟩
          case measure => simp [intOf] <;> omega
      · have HT : Hid (b = bestV v f (k + 1)) := hide (by rw [HS.out, if_neg (fun h => hxy h.1)])
        clear HS
        go_wp2_with (first
          | (go_at_call 72; (with_reducible refine (HC1.out).mono ?_); rintro e w2 ⟨rfl, hb2⟩; have HB2 := hide hb2; clear hb2)
          | (go_at_call 72; (with_reducible refine (HC2.out _ HB2.out).mono ?_); rintro e w3 ⟨rfl, hb3⟩; have HB3 := hide hb3; clear hb3))
        go_roundw
        case rel => exact ⟨k + 1, b, by omega, by go_num, rfl, HT, HB3.out⟩
        case measure => simp [intOf] <;> omega
    · obtain rfl : N = k := by omega
      have HB1 := hide hb
      clear hb
      go_wp2
      go_ret
      exact ⟨by rw [← HB.out]; rfl, HB1.out⟩
set_option maxRecDepth 100000 in
set_option maxHeartbeats 1600000 in
theorem best_weight (A : Option Addr) (n c : Nat) (L : List J4) (w : World) (hn : L.length = n) (hL : JobsOk L) (hA : JobsA w w.heap.size A L) :
    Calls Try.prog 71 #[.slice A n c, .func (.func 74) #[.slice A n c] #[]] w fun e w' => e = .returned (.int .i64 (bestV (fun S => wtN L S L.length) (fitB L) (2 ^ n) : Nat)) ∧ Below w.heap.size w w' := by
  have h8 : n ≤ 8 := by rw [← hn]; exact hL.le
  obtain ⟨v, hv⟩ : ∃ v : Nat → Int, v = (fun S => wtN L S L.length) := ⟨_, rfl⟩
  have HV : Hid (∀ (w' : World) (S : Nat), Below w.heap.size w w' → S < 256 → Calls Try.prog 74 #[.slice A n c, .int .i64 (S : Nat)] w' fun e w'' => e = .returned (.int .i64 (v S)) ∧ Below w.heap.size w w'') := fun w' S hb hS => by
    rw [hv]
    show Calls _ _ _ _ fun e w'' => e = .returned (.int .i64 (wtN L S L.length)) ∧ _
    rw [hn]
    exact (weight_any A n c S L w' hn hL hS (hA.next hb)).mono fun _ _ h => ⟨h.1, hb.trans (h.2.mono hb.size)⟩
  have HF : Hid (∀ (w' : World) (S : Nat), Below w.heap.size w w' → S < 256 → Calls Try.prog 84 #[.slice A n c, .int .i64 (S : Nat)] w' fun e w'' => e = .returned (.bool (fitB L S)) ∧ Below w.heap.size w w'') := fun w' S hb hS =>
    (fits_any A n c S L w' hn hL hS (hA.next hb)).mono fun _ _ h => ⟨h.1, hb.trans (h.2.mono hb.size)⟩
  rw [← hv]
  obtain ⟨N, hN⟩ : ∃ N, N = 2 ^ n := ⟨_, rfl⟩
  have hN8 : N ≤ 256 := by rw [hN]; exact pow256 h8
  have HW : Hid (wrap64 (2 ^ min n 64) = (N : Int)) := by rw [hN]; exact wrap_pow h8
  have HW2 : Hid (wrap64 (2 ^ n) = (N : Int)) := by rw [hN]; exact hide (shl_one n (by omega))
  rw [← hN]
  obtain ⟨f, hf⟩ : ∃ f, f = fitB L := ⟨_, rfl⟩
  rw [← hf] at HF ⊢
  clear hA hL hn hv hN hf
  go_enter Try.func71, Try.ntmps71
  go_wp2
  first | rw [HW.out] | rw [HW2.out]
  go_loopw [5, 10] (fun v5 v10 wr => ∃ (k b : Nat), k ≤ N ∧ v10 = .int .i64 k ∧ v5 = .int .i64 (b : Nat) ∧ Hid (b = bestV v f k) ∧ Below w.heap.size w wr) (fun _ v _ => N - (intOf v).toNat)
  case atStart => exact ⟨0, 0, Nat.zero_le _, rfl, rfl, hide rfl, Below.refl _ _⟩
  case round =>
    obtain ⟨k, b, hk, rfl, rfl, HB, hb⟩ := hrel
    obtain ⟨w1, rfl⟩ : ∃ w1 : World, w1 = wr := ⟨_, rfl⟩
    by_cases hlt : k < N
    · have hkn : (k : Int) < (N : Int) := by omega
      have hb8 : b ≤ k := by rw [HB.out]; exact bestV_le v f k
      have hk8 : k < 256 := by omega
      have HS := hide (show bestV v f (k + 1) = if v (bestV v f k) < v k ∧ f k = true then k else bestV v f k from rfl)
      rw [← HB.out] at HS
      have HC1 := hide (HV.out w1 k hb hk8)
      have HC2 : Hid (∀ w', Below w.heap.size w w' → Calls Try.prog 74 #[.slice A n c, .int .i64 (b : Nat)] w' fun e w'' => e = .returned (.int .i64 (v b)) ∧ Below w.heap.size w w'') := fun w' h => HV.out w' b h (by omega)
      have HC3 : Hid (∀ w', Below w.heap.size w w' → Calls Try.prog 84 #[.slice A n c, .int .i64 (k : Nat)] w' fun e w'' => e = .returned (.bool (f k)) ∧ Below w.heap.size w w'') := fun w' h => HF.out w' k h hk8
      obtain ⟨x, hx⟩ : ∃ x, x = v k := ⟨_, rfl⟩
      obtain ⟨y, hy⟩ : ∃ y, y = v b := ⟨_, rfl⟩
      obtain ⟨z, hz⟩ : ∃ z, z = f k := ⟨_, rfl⟩
      rw [← hx] at HC1 HS
      rw [← hy] at HC2 HS
      rw [← hz] at HC3 HS
      clear hx hy hz hb
      by_cases hxy : y < x
      · cases z with
        | true =>
          have HT : Hid (k = bestV v f (k + 1)) := hide (by rw [HS.out, if_pos ⟨hxy, rfl⟩])
          clear HS
          go_wp2_with (first
            | (go_at_call 74; (with_reducible refine (HC1.out).mono ?_); rintro e w2 ⟨rfl, hb2⟩; have HB2 := hide hb2; clear hb2)
            | (go_at_call 74; (with_reducible refine (HC2.out _ HB2.out).mono ?_); rintro e w3 ⟨rfl, hb3⟩; have HB3 := hide hb3; clear hb3)
            | (go_at_call 84; (with_reducible refine (HC3.out _ HB3.out).mono ?_); rintro e w4 ⟨rfl, hb4⟩; have HB4 := hide hb4; clear hb4))
          go_roundw
          case rel => exact ⟨k + 1, k, by omega, by go_num, rfl, HT, HB4.out⟩
          case measure => simp [intOf] <;> omega
        | false =>
          have HT : Hid (b = bestV v f (k + 1)) := hide (by rw [HS.out, if_neg (fun h => by cases h.2)])
          clear HS
          go_wp2_with (first
            | (go_at_call 74; (with_reducible refine (HC1.out).mono ?_); rintro e w2 ⟨rfl, hb2⟩; have HB2 := hide hb2; clear hb2)
            | (go_at_call 74; (with_reducible refine (HC2.out _ HB2.out).mono ?_); rintro e w3 ⟨rfl, hb3⟩; have HB3 := hide hb3; clear hb3)
            | (go_at_call 84; (with_reducible refine (HC3.out _ HB3.out).mono ?_); rintro e w4 ⟨rfl, hb4⟩; have HB4 := hide hb4; clear hb4))
          go_roundw
          case rel => exact ⟨k + 1, b, by omega, by go_num, rfl, HT, HB4.out⟩
          case measure => simp [intOf] <;> omega
      · have HT : Hid (b = bestV v f (k + 1)) := hide (by rw [HS.out, if_neg (fun h => hxy h.1)])
        clear HS
        go_wp2_with (first
          | (go_at_call 74; (with_reducible refine (HC1.out).mono ?_); rintro e w2 ⟨rfl, hb2⟩; have HB2 := hide hb2; clear hb2)
          | (go_at_call 74; (with_reducible refine (HC2.out _ HB2.out).mono ?_); rintro e w3 ⟨rfl, hb3⟩; have HB3 := hide hb3; clear hb3))
        go_roundw
        case rel => exact ⟨k + 1, b, by omega, by go_num, rfl, HT, HB3.out⟩
        case measure => simp [intOf] <;> omega
    · obtain rfl : N = k := by omega
      have HB1 := hide hb
      clear hb
      go_wp2
      go_ret
      exact ⟨by rw [← HB.out]; rfl, HB1.out⟩
end Go.Proofs.Ytiadineakhcclaa

/-
  dates: Most, Weigh.
-/
namespace Go.Proofs.Ytiadineakhcclaa
open Go.RowKit Go.Deep
set_option linter.unusedVariables false
set_option linter.unusedSimpArgs false

set_option maxHeartbeats 800000 in
theorem most_no (A : Option Addr) (n c : Nat) (L : List J4) (w : World) (hn : L.length = n) (hlen : n ≤ 9223372036854775807) (hA : JobsA w w.heap.size A L) (hv : jobsB L = false) :
    Calls Try.prog 49 #[.slice A n c] w fun e w' => e = .returned (.tuple #[.int .i64 0, .int .i64 2]) ∧ Below w.heap.size w w' := by
  have HV := hide (jvalid_any A n c L w hn hlen hA)
  rw [hv] at HV
  clear hv hA hn
  go_enter Try.func49, Try.ntmps49
  go_wp2_with (first | (go_at_call 54; refine (HV.out).mono ?_; rintro e w1 ⟨rfl, hb1⟩; have HB1 := hide hb1; clear hb1))
  go_ret2
  exact ⟨rfl, HB1.out⟩
set_option maxHeartbeats 800000 in
theorem weigh_no (A : Option Addr) (n c : Nat) (L : List J4) (w : World) (hn : L.length = n) (hlen : n ≤ 9223372036854775807) (hA : JobsA w w.heap.size A L) (hv : jobsB L = false) :
    Calls Try.prog 50 #[.slice A n c] w fun e w' => e = .returned (.tuple #[.int .i64 0, .int .i64 0, .int .i64 2]) ∧ Below w.heap.size w w' := by
  have HV := hide (jvalid_any A n c L w hn hlen hA)
  rw [hv] at HV
  clear hv hA hn
  go_enter Try.func50, Try.ntmps50
  go_wp2_with (first | (go_at_call 54; refine (HV.out).mono ?_; rintro e w1 ⟨rfl, hb1⟩; have HB1 := hide hb1; clear hb1))
  exact bodyPost_ret (v := .tuple #[.int .i64 0, .int .i64 0, .int .i64 2]) (by simp [results, Try.results50, go_sem]) rfl ⟨rfl, HB1.out⟩
def mostN (L : List J4) : Nat := bestV (fun S => (cardF 8 S : Int)) (fitB L) (2 ^ L.length)
def weighN (L : List J4) : Nat := bestV (fun S => wtN L S L.length) (fitB L) (2 ^ L.length)
theorem weighN_lt {L : List J4} (hL : JobsOk L) : weighN L < 256 := by
  have h1 := bestV_le (fun S => wtN L S L.length) (fitB L)
  have h2 : ∀ k, 0 < k → bestV (fun S => wtN L S L.length) (fitB L) k < k := fun k hk => by
    induction k with
    | zero => omega
    | succ k ih =>
      have := h1 k
      unfold bestV
      split <;> omega
  have h3 := h2 (2 ^ L.length) (Nat.two_pow_pos _)
  have := pow256 hL.le
  unfold weighN
  omega
set_option maxHeartbeats 800000 in
theorem most_yes (A : Option Addr) (n c : Nat) (L : List J4) (w : World) (hn : L.length = n) (hlen : n ≤ 9223372036854775807) (hA : JobsA w w.heap.size A L) (hv : jobsB L = true) :
    Calls Try.prog 49 #[.slice A n c] w fun e w' => e = .returned (.tuple #[.int .i64 (mostN L : Nat), .int .i64 0]) ∧ Below w.heap.size w w' := by
  have hmf : ∀ (fn : Fn) (first cap : Array Value) (w : World), (Instr.makeFunc fn first cap).run Try.prog w = .ok (.func fn first cap) w := fun _ _ _ _ => rfl
  have HV := hide (jvalid_any A n c L w hn hlen hA)
  rw [hv] at HV
  have HD := hide (fun w1 (hb : Below w.heap.size w w1) => best_most A n c L w1 hn (jobsB_iff.1 hv) (hA.next hb))
  rw [show mostN L = bestV (fun S => (cardF 8 S : Int)) (fitB L) (2 ^ n) by rw [mostN, hn]]
  generalize bestV (fun S => (cardF 8 S : Int)) (fitB L) (2 ^ n) = b at *
  clear hv hA hn
  go_enter Try.func49, Try.ntmps49
  go_wp2_with (first
    | (go_at_call 54; refine (HV.out).mono ?_; rintro e w1 ⟨rfl, hb1⟩; have HB1 := hide hb1; clear hb1)
    | (go_at_call 71; refine (HD.out _ HB1.out).mono ?_; rintro e w2 ⟨rfl, h4⟩; have H4 := hide h4; clear h4))
  go_ret2
  exact ⟨rfl, HB1.out.trans (H4.out.mono HB1.out.size)⟩
set_option maxHeartbeats 800000 in
theorem weigh_yes (A : Option Addr) (n c : Nat) (L : List J4) (w : World) (hn : L.length = n) (hlen : n ≤ 9223372036854775807) (hA : JobsA w w.heap.size A L) (hv : jobsB L = true) :
    Calls Try.prog 50 #[.slice A n c] w fun e w' => e = .returned (.tuple #[.int .i64 (weighN L : Nat), .int .i64 (wtN L (weighN L) n), .int .i64 0]) ∧ Below w.heap.size w w' := by
  have hmf : ∀ (fn : Fn) (first cap : Array Value) (w : World), (Instr.makeFunc fn first cap).run Try.prog w = .ok (.func fn first cap) w := fun _ _ _ _ => rfl
  have HV := hide (jvalid_any A n c L w hn hlen hA)
  rw [hv] at HV
  have HD := hide (fun w1 (hb : Below w.heap.size w w1) => best_weight A n c L w1 hn (jobsB_iff.1 hv) (hA.next hb))
  rw [show bestV (fun S => wtN L S L.length) (fitB L) (2 ^ n) = weighN L by rw [weighN, hn]] at HD
  have HE := hide (fun w1 (hb : Below w.heap.size w w1) => weight_any A n c (weighN L) L w1 hn (jobsB_iff.1 hv) (weighN_lt (jobsB_iff.1 hv)) (hA.next hb))
  generalize wtN L (weighN L) n = y at *
  generalize weighN L = b at *
  clear hv hA hn
  go_enter Try.func50, Try.ntmps50
  go_wp2_with (first
    | (go_at_call 54; refine (HV.out).mono ?_; rintro e w1 ⟨rfl, hb1⟩; have HB1 := hide hb1; clear hb1)
    | (go_at_call 71; refine (HD.out _ HB1.out).mono ?_; rintro e w2 ⟨rfl, h4⟩; have H4 := hide h4; clear h4; have H5 := hide (HB1.out.trans (H4.out.mono HB1.out.size)))
    | (go_at_call 74; refine (HE.out _ H5.out).mono ?_; rintro e w3 ⟨rfl, h6⟩; have H6 := hide h6; clear h6))
  exact bodyPost_ret (v := .tuple #[.int .i64 b, .int .i64 y, .int .i64 0]) (by simp [results, Try.results50, go_sem]) rfl ⟨rfl, H5.out.trans (H6.out.mono H5.out.size)⟩
end Go.Proofs.Ytiadineakhcclaa

/-
  dates (plain): the reference's Fits: the least by Due of what is left, again and again.
-/
namespace Go.Proofs.Ytiadineakhcclaa
open Go.RowKit
set_option linter.unusedVariables false
set_option linter.unusedSimpArgs false

theorem if_iff {p q : Prop} [Decidable p] [Decidable q] (h : p ↔ q) (a b : Int) : (if p then a else b) = if q then a else b := by
  by_cases hp : p
  · rw [if_pos hp, if_pos (h.1 hp)]
  · rw [if_neg hp, if_neg (fun hq => hp (h.2 hq))]
/-- The least of T by Due among the first k, or -1. -/
def leF (L : List J4) (T : Nat) : Nat → Int
  | 0 => -1
  | k + 1 => if T.testBit k = true ∧ (leF L T k < 0 ∨ (L.getD k j0).d < (L.getD (leF L T k).toNat j0).d) then (k : Int) else leF L T k
theorem leF_spec (L : List J4) (T : Nat) : ∀ k, (leF L T k = -1 ∧ ∀ i, i < k → T.testBit i = false) ∨ ∃ a : Nat, leF L T k = a ∧ a < k ∧ T.testBit a = true ∧ ∀ i, i < k → T.testBit i = true → leK (due L) a i
  | 0 => .inl ⟨rfl, fun i hi => by omega⟩
  | k + 1 => by
      unfold leF
      rcases leF_spec L T k with ⟨h1, h2⟩ | ⟨a, h1, h2, h3, h4⟩
      · rw [h1]
        by_cases hb : T.testBit k = true
        · rw [if_pos ⟨hb, .inl (by omega)⟩]
          refine .inr ⟨k, rfl, by omega, hb, fun i hi hbi => ?_⟩
          by_cases e : i = k
          · exact .inr e.symm
          · rw [h2 i (by omega)] at hbi; cases hbi
        · rw [if_neg (fun h => hb h.1)]
          refine .inl ⟨rfl, fun i hi => ?_⟩
          by_cases e : i = k
          · subst e; exact Bool.eq_false_iff.2 hb
          · exact h2 i (by omega)
      · rw [h1, Int.toNat_natCast]
        by_cases hb : T.testBit k = true ∧ (L.getD k j0).d < (L.getD a j0).d
        · rw [if_pos ⟨hb.1, .inr hb.2⟩]
          refine .inr ⟨k, rfl, by omega, hb.1, fun i hi hbi => ?_⟩
          by_cases e : i = k
          · exact .inr e.symm
          · have h5 := h4 i (by omega) hbi
            have h6 : due L k < due L a := hb.2
            unfold leK ltK at h5 ⊢
            rcases h5 with h5 | h5
            · left; omega
            · subst h5; left; omega
        · rw [if_neg (fun h => hb ⟨h.1, by rcases h.2 with h | h; omega; exact h⟩)]
          refine .inr ⟨a, rfl, by omega, h3, fun i hi hbi => ?_⟩
          by_cases e : i = k
          · subst e
            have h6 : ¬ due L i < due L a := fun h => hb ⟨hbi, h⟩
            unfold leK ltK
            left; omega
          · exact h4 i (by omega) hbi
/-- What the reference's Fits holds after k rounds. -/
structure RF (L : List J4) (S k T : Nat) (now : Int) : Prop where
  sub : ∀ i, T.testBit i = true → S.testBit i = true
  lt : T < 2 ^ 8
  now_ : now = sumF (fun j => if S.testBit j = true ∧ T.testBit j = false then (L.getD j j0).t else 0) L.length
  fit : ∀ i, i < L.length → S.testBit i = true → T.testBit i = false → workK L S i ≤ (L.getD i j0).d
  before : ∀ i j, S.testBit i = true → T.testBit i = false → T.testBit j = true → i < L.length → j < L.length → ltK (due L) i j
  card : cardF L.length T + k ≤ L.length
theorem RF.zero {L : List J4} {S : Nat} (hS : S < 256) : RF L S 0 S 0 := by
  have hno : ∀ i, ¬ (S.testBit i = true ∧ S.testBit i = false) := fun i h => by rw [h.1] at h; cases h.2
  refine ⟨fun _ h => h, hS, ?_, fun i _ h1 h2 => absurd ⟨h1, h2⟩ (hno i), fun i j h1 h2 => absurd ⟨h1, h2⟩ (hno i), by have := cardF_le L.length S; omega⟩
  have : ∀ n, sumF (fun j => if S.testBit j = true ∧ S.testBit j = false then (L.getD j j0).t else 0) n = 0 := fun n => by
    induction n with
    | zero => rfl
    | succ n ih => rw [sumF, ih, if_neg (hno n)]; omega
  exact (this _).symm
theorem RF.bd {L : List J4} {S k T : Nat} {now : Int} (h : RF L S k T now) (hL : JobsOk L) : 0 ≤ now ∧ now ≤ 160 := by
  have : ∀ n, n ≤ L.length → 0 ≤ sumF (fun j => if S.testBit j = true ∧ T.testBit j = false then (L.getD j j0).t else 0) n ∧ sumF (fun j => if S.testBit j = true ∧ T.testBit j = false then (L.getD j j0).t else 0) n ≤ 20 * n := fun n => by
    induction n with
    | zero => intro _; exact ⟨Int.le_refl _, by simp [sumF]⟩
    | succ n ih =>
      intro hn
      obtain ⟨h1, h2⟩ := ih (by omega)
      have h3 := hL.at_ n (by omega)
      rw [sumF]
      split <;> constructor <;> push_cast <;> omega
  have h1 := this L.length (Nat.le_refl _)
  have := hL.le
  rw [h.now_]
  omega
theorem RF.work {L : List J4} {S k T : Nat} {now : Int} (h : RF L S k T now) {a : Nat} (ha : a < L.length) (hb : T.testBit a = true) (hle : ∀ i, i < L.length → T.testBit i = true → leK (due L) a i) : workK L S a = now + (L.getD a j0).t := by
  have h1 := sumF_one (f := fun j => if S.testBit j = true ∧ leK (due L) j a then (L.getD j j0).t else 0) (g := fun j => if S.testBit j = true ∧ T.testBit j = false then (L.getD j j0).t else 0) (i := a) L.length (fun j hj hne => by
    show (if _ then _ else _) = (if _ then _ else _)
    refine if_iff ⟨fun ⟨h2, h3⟩ => ⟨h2, ?_⟩, fun ⟨h2, h3⟩ => ⟨h2, .inl (h.before j a h2 h3 hb hj ha)⟩⟩ _ _
    cases hT : T.testBit j with
    | false => rfl
    | true =>
      have h5 := hle j hj hT
      unfold leK ltK at h3 h5
      omega)
  unfold workK
  rw [h1, if_pos ha, ← h.now_]
  rw [if_pos ⟨h.sub a hb, .inr rfl⟩, if_neg (by rw [hb]; intro h; cases h.2)]
  omega
theorem RF.next {L : List J4} {S k T : Nat} {now : Int} (h : RF L S k T now) {a : Nat} (ha : a < L.length) (hb : T.testBit a = true) (hle : ∀ i, i < L.length → T.testBit i = true → leK (due L) a i) (hd : now + (L.getD a j0).t ≤ (L.getD a j0).d) (h8 : a < 8) :
    RF L S (k + 1) (sdiff T (2 ^ a)) (now + (L.getD a j0).t) := by
  have hbit : ∀ i, (sdiff T (2 ^ a)).testBit i = (T.testBit i && !decide (a = i)) := fun i => by rw [testBit_sdiff, Nat.testBit_two_pow]
  have hone : ∀ i, (sdiff T (2 ^ a)).testBit i = false → T.testBit i = false ∨ i = a := fun i hi => by
    rw [hbit] at hi
    cases hT : T.testBit i with
    | false => exact .inl rfl
    | true => rw [hT] at hi; simp at hi; exact .inr hi.symm
  have htwo : ∀ i, (sdiff T (2 ^ a)).testBit i = true → T.testBit i = true ∧ i ≠ a := fun i hi => by
    rw [hbit] at hi; simp at hi; exact ⟨hi.1, fun e => hi.2 e.symm⟩
  have hw := h.work ha hb hle
  refine ⟨fun i hi => h.sub i (htwo i hi).1, sdiff_lt _ _ _ h.lt (Nat.pow_lt_pow_right (by decide) h8), ?_, fun i hi h1 h2 => ?_, fun i j h1 h2 h3 hi hj => ?_, ?_⟩
  · have h1 := sumF_one (f := fun j => if S.testBit j = true ∧ (sdiff T (2 ^ a)).testBit j = false then (L.getD j j0).t else 0) (g := fun j => if S.testBit j = true ∧ T.testBit j = false then (L.getD j j0).t else 0) (i := a) L.length (fun j hj hne => by
      show (if _ then _ else _) = (if _ then _ else _)
      refine if_iff ⟨fun ⟨h2, h3⟩ => ⟨h2, ?_⟩, fun ⟨h2, h3⟩ => ⟨h2, by rw [hbit, h3]; rfl⟩⟩ _ _
      rcases hone j h3 with h4 | h4
      · exact h4
      · exact absurd h4 hne)
    rw [h1, if_pos ha, ← h.now_, if_pos ⟨h.sub a hb, by rw [hbit]; simp⟩, if_neg (by rw [hb]; intro h; cases h.2)]
    omega
  · rcases hone i h2 with h3 | h3
    · exact h.fit i hi h1 h3
    · subst h3; rw [hw]; exact hd
  · obtain ⟨h4, h5⟩ := htwo j h3
    rcases hone i h2 with h6 | h6
    · exact h.before i j h1 h6 h4 hi hj
    · subst h6
      rcases hle j hj h4 with h7 | h7
      · exact h7
      · exact absurd h7.symm h5
  · have := cardF_drop (n := L.length) ha hb
    have := h.card
    omega
theorem RF.no {L : List J4} {S k T : Nat} {now : Int} (h : RF L S k T now) {a : Nat} (ha : a < L.length) (hb : T.testBit a = true) (hle : ∀ i, i < L.length → T.testBit i = true → leK (due L) a i) (hd : ¬ now + (L.getD a j0).t ≤ (L.getD a j0).d) : fitB L S = false := by
  rw [fitB, decide_eq_false_iff_not]
  intro hf
  have := hf a ha (h.sub a hb)
  rw [h.work ha hb hle] at this
  exact hd this
theorem RF.yes {L : List J4} {S k T : Nat} {now : Int} (h : RF L S k T now) (he : ∀ i, i < L.length → T.testBit i = false) : fitB L S = true := by
  rw [fitB, decide_eq_true_iff]
  exact fun i hi hb => h.fit i hi hb (he i hi)
theorem RF.end_ {L : List J4} {S T : Nat} {now : Int} (h : RF L S L.length T now) : fitB L S = true := by
  refine h.yes fun i hi => ?_
  cases hT : T.testBit i with
  | false => rfl
  | true =>
    have h1 := cardF_drop (n := L.length) hi hT
    have := h.card
    omega
end Go.Proofs.Ytiadineakhcclaa

/-
  dates: the reference's Fits.
-/
namespace Go.Proofs.Ytiadineakhcclaa
open Go.RowKit
set_option linter.unusedVariables false
set_option linter.unusedSimpArgs false

set_option maxRecDepth 100000 in
set_option maxHeartbeats 1600000 in
theorem rfits_any (A : Option Addr) (n c S : Nat) (L : List J4) (w : World) (hn : L.length = n) (hL : JobsOk L) (hS : S < 256) (hA : JobsA w w.heap.size A L) :
    Calls Try.prog 75 #[.slice A n c, .int .i64 (S : Nat)] w fun e w' => e = .returned (.bool (fitB L S)) ∧ Below w.heap.size w w' := by
  have h8 : n ≤ 8 := by rw [← hn]; exact hL.le
  have HA := hide hA
  have HL := hide hL
  have HN := hide hn
  have HR0 := hide (RF.zero (L := L) hS)
  clear hA hL hn
  go_enter Try.func75, Try.ntmps75
  go_wp2
  go_loopw [1, 5, 11] (fun v1 v5 v11 wr => ∃ (k T : Nat) (now : Int), k ≤ n ∧ v11 = .int .i64 k ∧ v1 = .int .i64 (T : Nat) ∧ v5 = .int .i64 now ∧ Hid (RF L S k T now) ∧ Below w.heap.size w wr) (fun _ _ v _ => n - (intOf v).toNat)
  case atStart => exact ⟨0, S, 0, Nat.zero_le _, rfl, rfl, rfl, HR0, Below.refl _ _⟩
  case round =>
    obtain ⟨k, T, now, hk, rfl, rfl, rfl, HR, hb⟩ := hrel
    have HB := hide hb
    obtain ⟨w1, rfl⟩ : ∃ w1 : World, w1 = wr := ⟨_, rfl⟩
    by_cases hlt : k < n
    · have hkn : (k : Int) < (n : Int) := by omega
      have hT8 := HR.out.lt
      have hT62 : T < 2 ^ 62 := Nat.lt_trans hT8 (by decide)
      have hbd := HR.out.bd HL.out
      have hk8 : k ≤ 8 := by omega
      clear hb
      go_wp2
      go_loopw [6, 15] (fun v6 v15 wr => ∃ j : Nat, j ≤ n ∧ v15 = .int .i64 j ∧ v6 = .int .i64 (leF L T j) ∧ Below w.heap.size w wr) (fun _ v _ => n - (intOf v).toNat)
      case atStart => exact ⟨0, Nat.zero_le _, rfl, rfl, HB.out⟩
      case round =>
        obtain ⟨j, hj, rfl, rfl, hb2⟩ := hrel
        have HB2 := hide hb2
        obtain ⟨w2, rfl⟩ : ∃ w2 : World, w2 = wr := ⟨_, rfl⟩
        by_cases hjl : j < n
        · have hjn : (j : Int) < (n : Int) := by omega
          have hj8 : j ≤ 8 := by omega
          obtain ⟨q, o, t1, r1, d1, u1, rfl, hq, ha0, ha1, ha2, ha3, hx1⟩ := (HA.out.next hb2).at_ (k := j) (by rw [HN.out]; exact hjl)
          have HST := hide (show leF L T (j + 1) = if T.testBit j = true ∧ (leF L T j < 0 ∨ (L.getD j j0).d < (L.getD (leF L T j).toNat j0).d) then (j : Int) else leF L T j from rfl)
          have HBW : Hid (∀ o q, Below w.heap.size w ((w2.alloc o).drewN q)) := fun o q => below_drewN (hb2.alloc hb2.size _) q
          have hS1 := shr_test T j hT62
          rw [hx1.out] at HST
          cases hbt : T.testBit j with
          | false =>
            rw [hbt] at hS1 HST
            have HV : Hid (leF L T j = leF L T (j + 1)) := hide (by rw [HST.out]; simp)
            clear hbt hb2 hx1 HST
            go_wp2
            go_quiet (fail)
            go_wp2
            go_roundw
            case rel => exact ⟨j + 1, by omega, by go_num, by rw [HV.out], HBW.out _ _⟩
            case measure => simp [intOf] <;> omega
          | true =>
            rw [hbt] at hS1 HST
            rcases leF_spec L T j with ⟨h1, h2⟩ | ⟨a, h1, h2, h3, h4⟩
            · have HV : Hid ((j : Int) = leF L T (j + 1)) := hide (by rw [HST.out, h1]; simp)
              rw [h1]
              clear hbt hb2 hx1 HST h1 h2
              go_wp2
              go_quiet (fail)
              go_wp2
              go_roundw
              case rel => exact ⟨j + 1, by omega, by go_num, by rw [HV.out], HBW.out _ _⟩
              case measure => simp [intOf] <;> omega
            · obtain ⟨q', o', t2, r2, d2, u2, e, hq2, hc0, hc1, hc2, hc3, hx2⟩ := (HA.out.next hb2).at_ (k := a) (by rw [HN.out]; omega)
              injection e with e; injection e with e1 e2
              subst e1; subst e2
              rw [h1, Int.toNat_natCast, hx2.out] at HST
              rw [h1]
              have han : (a : Int) < (n : Int) := by omega
              have ha0' : ¬ (a : Int) < 0 := by omega
              by_cases hdd : d1 < d2
              · have HV : Hid ((j : Int) = leF L T (j + 1)) := hide (by rw [HST.out, if_pos ⟨rfl, .inr hdd⟩])
                clear hbt hb2 hx1 hx2 HST h1 h3 h4
                go_wp2
                go_quiet (fail)
                go_wp2
                go_roundw
                case rel => exact ⟨j + 1, by omega, by go_num, by rw [HV.out], HBW.out _ _⟩
                case measure => simp [intOf] <;> omega
              · have HV : Hid ((a : Int) = leF L T (j + 1)) := hide (by
                  rw [HST.out, if_neg]
                  rintro ⟨_, h | h⟩
                  · omega
                  · exact hdd h)
                clear hbt hb2 hx1 hx2 HST h1 h3 h4
                go_wp2
                go_quiet (fail)
                go_wp2
                go_roundw
                case rel => exact ⟨j + 1, by omega, by go_num, by rw [HV.out], HBW.out _ _⟩
                case measure => simp [intOf] <;> omega
        · obtain rfl : n = j := by omega
          rcases leF_spec L T n with ⟨h1, h2⟩ | ⟨a, h1, h2, h3, h4⟩
          · rw [h1]
            have HY : Hid (fitB L S = true) := HR.out.yes (fun i hi => h2 i (by rw [← HN.out]; exact hi))
            clear h1 h2 hb2
            go_wp2
            go_ret
            refine ⟨?_, HB2.out⟩
            rw [HY.out]; rfl
          · obtain ⟨q, o, t1, r1, d1, u1, rfl, hq, ha0, ha1, ha2, ha3, hx1⟩ := (HA.out.next hb2).at_ (k := a) (by rw [HN.out]; exact h2)
            have hjb := HL.out.at_ a (by rw [HN.out]; exact h2)
            rw [hx1.out] at hjb
            have hjb0 : 1 ≤ t1 ∧ t1 ≤ 20 ∧ 0 ≤ d1 ∧ d1 ≤ 200 := ⟨hjb.1, hjb.2.1, hjb.2.2.2.2.1, hjb.2.2.2.2.2.1⟩
            have han : (a : Int) < (n : Int) := by omega
            have ha0' : ¬ (a : Int) < 0 := by omega
            have hle : ∀ i, i < L.length → T.testBit i = true → leK (due L) a i := fun i hi => h4 i (by rw [← HN.out]; exact hi)
            have hsh : bits .andNot .i64 (T : Int) (wrap64 (2 ^ a)) = ((sdiff T (2 ^ a) : Nat) : Int) := by
              rw [shl_one a (by omega), bandNot_nat _ _ hT62 (Nat.pow_lt_pow_right (by decide) (by omega))]
            have HNO : Hid (¬ now + t1 ≤ d1 → fitB L S = false) := fun h => HR.out.no (a := a) (by rw [HN.out]; exact h2) h3 hle (by rw [hx1.out]; exact h)
            have HYS : Hid (now + t1 ≤ d1 → RF L S (k + 1) (sdiff T (2 ^ a)) (now + t1)) := fun h => by
              have := HR.out.next (a := a) (by rw [HN.out]; exact h2) h3 hle (by rw [hx1.out]; exact h) (by omega)
              rw [hx1.out] at this; exact this
            rw [h1]
            clear h1 h2 h3 h4 hb2 hx1 hjb hle
            by_cases hd : d1 < now + t1
            · have HF : Hid (fitB L S = false) := HNO.out (by omega)
              go_wp2
              go_ret
              refine ⟨?_, HB2.out⟩
              rw [HF.out]; rfl
            · have HF : Hid (RF L S (k + 1) (sdiff T (2 ^ a)) (now + t1)) := HYS.out (by omega)
              go_wp2
              go_roundw
              case rel => exact ⟨k + 1, _, _, by omega, by go_num, rfl, rfl, HF, HB2.out⟩
              case measure => simp [intOf] <;> omega
    · obtain rfl : n = k := by omega
      have HY : Hid (fitB L S = true) := (HN.out.symm ▸ HR.out : RF L S L.length T now).end_
      clear hb
      go_wp2
      go_ret
      refine ⟨?_, HB.out⟩
      rw [HY.out]; rfl
end Go.Proofs.Ytiadineakhcclaa

/-
  dates: the reference's Most and Weigh.
-/
namespace Go.Proofs.Ytiadineakhcclaa
open Go.RowKit
set_option linter.unusedVariables false
set_option linter.unusedSimpArgs false

theorem cardF_hi {S n : Nat} (h : S < 2 ^ n) : ∀ d, cardF (n + d) S = cardF n S
  | 0 => rfl
  | d + 1 => by
      show cardF (n + d) S + (if S.testBit (n + d) then 1 else 0) = _
      rw [cardF_hi h d, Nat.testBit_lt_two_pow (Nat.lt_of_lt_of_le h (Nat.pow_le_pow_right (by decide) (by omega)))]; simp
theorem cardF_8 {S n : Nat} (h : S < 2 ^ n) (hn : n ≤ 8) : cardF 8 S = cardF n S := by
  have := cardF_hi h (8 - n)
  rwa [show n + (8 - n) = 8 by omega] at this
set_option maxRecDepth 100000 in
set_option maxHeartbeats 1600000 in
theorem rmost_any (A : Option Addr) (n c : Nat) (L : List J4) (w : World) (hn : L.length = n) (hL : JobsOk L) (hA : JobsA w w.heap.size A L) :
    Calls Try.prog 52 #[.slice A n c] w fun e w' => e = .returned (.int .i64 (mostN L : Nat)) ∧ Below w.heap.size w w' := by
  have h8 : n ≤ 8 := by rw [← hn]; exact hL.le
  obtain ⟨v, hv⟩ : ∃ v : Nat → Int, v = (fun S => (cardF 8 S : Int)) := ⟨_, rfl⟩
  have HF : Hid (∀ (w' : World) (S : Nat), Below w.heap.size w w' → S < 256 → Calls Try.prog 75 #[.slice A n c, .int .i64 (S : Nat)] w' fun e w'' => e = .returned (.bool (fitB L S)) ∧ Below w.heap.size w w'') := fun w' S hb hS =>
    (rfits_any A n c S L w' hn hL hS (hA.next hb)).mono fun _ _ h => ⟨h.1, hb.trans (h.2.mono hb.size)⟩
  rw [show mostN L = bestV (fun S => (cardF 8 S : Int)) (fitB L) (2 ^ n) by rw [mostN, hn], ← hv]
  obtain ⟨N, hN⟩ : ∃ N, N = 2 ^ n := ⟨_, rfl⟩
  have hN8 : N ≤ 256 := by rw [hN]; exact pow256 h8
  have HV : Hid (∀ S, S < N → v S = (cardF n S : Nat)) := fun S hS => by
    rw [hv]; show ((cardF 8 S : Nat) : Int) = _
    rw [cardF_8 (hN ▸ hS) h8]
  have HV0 : Hid (((0 : Nat) : Int) = v 0) := by rw [hv]; exact hide (by decide)
  have HW : Hid (wrap64 (2 ^ min n 64) = (N : Int)) := by rw [hN]; exact wrap_pow h8
  have HW2 : Hid (wrap64 (2 ^ n) = (N : Int)) := by rw [hN]; exact hide (shl_one n (by omega))
  rw [← hN]
  obtain ⟨f, hf⟩ : ∃ f, f = fitB L := ⟨_, rfl⟩
  rw [← hf] at HF ⊢
  clear hA hL hn hv hN hf
  go_enter Try.func52, Try.ntmps52
  go_wp2
  first | rw [HW.out] | rw [HW2.out]
  go_loopw [3, 4, 11] (fun v3 v4 v11 wr => ∃ (k b m : Nat), k ≤ N ∧ v11 = .int .i64 k ∧ v3 = .int .i64 (b : Nat) ∧ v4 = .int .i64 (m : Nat) ∧ Hid (b = bestV v f k) ∧ Hid ((m : Int) = v b) ∧ Below w.heap.size w wr) (fun _ _ v _ => N - (intOf v).toNat)
  case atStart => exact ⟨0, 0, 0, Nat.zero_le _, rfl, rfl, rfl, hide rfl, HV0, Below.refl _ _⟩
  case round =>
    obtain ⟨k, b, m, hk, rfl, rfl, rfl, HB, HM, hb⟩ := hrel
    obtain ⟨w1, rfl⟩ : ∃ w1 : World, w1 = wr := ⟨_, rfl⟩
    have HB1 := hide hb
    by_cases hlt : k < N
    · have hkn : (k : Int) < (N : Int) := by omega
      have hk8 : k < 256 := by omega
      have hk62 : k < 2 ^ 62 := Nat.lt_trans hk8 (by decide)
      have HS := hide (show bestV v f (k + 1) = if v (bestV v f k) < v k ∧ f k = true then k else bestV v f k from rfl)
      have HVK := hide (HV.out k hlt)
      rw [← HB.out, ← HM.out, HVK.out] at HS
      have HC3 := hide (HF.out w1 k hb hk8)
      obtain ⟨z, hz⟩ : ∃ z, z = f k := ⟨_, rfl⟩
      rw [← hz] at HC3 HS
      clear hz hb
      go_wp2
      go_loopw [6, 16] (fun v6 v16 wr => ∃ (j y : Nat), j ≤ n ∧ v16 = .int .i64 j ∧ v6 = .int .i64 (y : Nat) ∧ Hid (y = cardF j k) ∧ Hid (wr = w1)) (fun _ v _ => n - (intOf v).toNat)
      case atStart => exact ⟨0, 0, Nat.zero_le _, rfl, rfl, hide rfl, hide rfl⟩
      case round =>
        obtain ⟨j, y, hj, rfl, rfl, HY, HWW⟩ := hrel
        by_cases hjl : j < n
        · have hjn : (j : Int) < (n : Int) := by omega
          have hj8 : j ≤ 8 := by omega
          have hy8 : y ≤ 8 := by rw [HY.out]; have := cardF_le j k; omega
          obtain ⟨d, hd⟩ : ∃ d : Nat, d = if k.testBit j = true then 1 else 0 := ⟨_, rfl⟩
          have hbit : bits .and .i64 ((k : Int) / 2 ^ j) 1 = (d : Int) := by rw [hd, shr_bit k j hk62]; split <;> rfl
          have hd1 : d ≤ 1 := by rw [hd]; split <;> omega
          have HYN : Hid (y + d = cardF (j + 1) k) := hide (by rw [HY.out, hd]; rfl)
          clear hd
          go_wp2
          go_roundw
          case rel => exact ⟨j + 1, y + d, by omega, by go_num, by go_num, HYN, HWW⟩
          case measure => simp [intOf] <;> omega
        · obtain rfl : n = j := by omega
          have e9 := HWW.out
          subst e9
          rw [← HY.out] at HS HVK
          by_cases hmy : m < y
          · have hmy2 : (m : Int) < (y : Int) := by omega
            cases z with
            | true =>
              have HT : Hid (k = bestV v f (k + 1)) := hide (by rw [HS.out, if_pos ⟨hmy2, rfl⟩])
              clear HS
              go_wp2_with (go_at_call 75; (with_reducible refine (HC3.out).mono ?_); rintro e w4 ⟨rfl, hb4⟩; have HB4 := hide hb4; clear hb4)
              go_roundw
              case rel => exact ⟨k + 1, k, y, by omega, by go_num, rfl, rfl, HT, hide HVK.out.symm, HB4.out⟩
              case measure => simp [intOf] <;> omega
            | false =>
              have HT : Hid (b = bestV v f (k + 1)) := hide (by rw [HS.out, if_neg (fun h => by cases h.2)])
              clear HS
              go_wp2_with (go_at_call 75; (with_reducible refine (HC3.out).mono ?_); rintro e w4 ⟨rfl, hb4⟩; have HB4 := hide hb4; clear hb4)
              go_roundw
              case rel => exact ⟨k + 1, b, m, by omega, by go_num, rfl, rfl, HT, HM, HB4.out⟩
              case measure => simp [intOf] <;> omega
          · have HT : Hid (b = bestV v f (k + 1)) := hide (by rw [HS.out, if_neg (fun h => by omega)])
            clear HS
            go_wp2
            go_roundw
            case rel => exact ⟨k + 1, b, m, by omega, by go_num, rfl, rfl, HT, HM, HB1.out⟩
            case measure => simp [intOf] <;> omega
    · obtain rfl : N = k := by omega
      clear hb
      go_wp2
      go_ret
      exact ⟨by rw [← HB.out]; rfl, HB1.out⟩
end Go.Proofs.Ytiadineakhcclaa

/-
  dates (plain): with the weight 1 for all Weigh is Most; the bits of a set, one by one.
-/
namespace Go.Proofs.Ytiadineakhcclaa
open Go.RowKit
set_option linter.unusedVariables false
set_option linter.unusedSimpArgs false

def w1J (j : J4) : J4 := ⟨j.t, j.r, j.d, 1⟩
theorem wt_ones {L : List J4} (S : Nat) : ∀ k, k ≤ L.length → wtN (L.map w1J) S k = (cardF k S : Nat)
  | 0, _ => rfl
  | k + 1, h => by
      show wtN (L.map w1J) S k + (if S.testBit k = true then ((L.map w1J).getD k j0).w else 0) = ((cardF k S + if S.testBit k = true then 1 else 0 : Nat) : Int)
      have e : ((L.map w1J).getD k j0).w = 1 := by rw [List.getD_eq_getElem?_getD, List.getElem?_map, List.getElem?_eq_getElem (by omega)]; rfl
      rw [wt_ones S k (by omega), e]
      split <;> push_cast <;> omega
theorem bestV_congr {v v' : Nat → Int} {f : Nat → Bool} {N : Nat} (h : ∀ S, S < N → v S = v' S) : ∀ k, k ≤ N → bestV v f k = bestV v' f k
  | 0, _ => rfl
  | k + 1, hk => by
      have ih := bestV_congr (f := f) h k (by omega)
      have := bestV_le v' f k
      unfold bestV
      rw [ih, h k (by omega), h _ (by omega)]
theorem ones_same {L : List J4} (hL : L.length ≤ 8) : weighN (L.map w1J) = mostN (L.map w1J) := by
  unfold weighN mostN
  refine bestV_congr (fun S hS => ?_) _ (Nat.le_refl _)
  rw [List.length_map] at hS ⊢
  rw [wt_ones S _ (Nat.le_refl _), cardF_8 hS hL]
theorem ones_wt {L : List J4} (hL : L.length ≤ 8) (hJ : JobsOk (L.map w1J)) : wtN (L.map w1J) (weighN (L.map w1J)) L.length = (cardF 8 (mostN (L.map w1J)) : Nat) := by
  have h2 : ∀ k, 0 < k → bestV (fun S => wtN (L.map w1J) S (L.map w1J).length) (fitB (L.map w1J)) k < k := fun k hk => by
    induction k with
    | zero => omega
    | succ k ih =>
      have := bestV_le (fun S => wtN (L.map w1J) S (L.map w1J).length) (fitB (L.map w1J)) k
      unfold bestV
      split <;> omega
  have h3 := h2 _ (Nat.two_pow_pos (L.map w1J).length)
  rw [wt_ones _ _ (Nat.le_refl _), ← ones_same hL, cardF_8 (n := L.length) _ hL]
  rw [List.length_map] at h3
  unfold weighN
  rw [List.length_map]
  exact h3
theorem bestV_lt (v : Nat → Int) (f : Nat → Bool) : ∀ k, 0 < k → bestV v f k < k := fun k hk => by
  induction k with
  | zero => omega
  | succ k ih =>
    have := bestV_le v f k
    unfold bestV
    split <;> omega
theorem mostN_lt {L : List J4} (h : L.length ≤ 8) : mostN L < 256 := Nat.lt_of_lt_of_le (bestV_lt _ _ _ (Nat.two_pow_pos _)) (pow256 h)
theorem drop_one : ∀ T : Nat, T < 256 → 0 < T → cardF 8 (T &&& (T - 1)) + 1 = cardF 8 T := by decide +kernel
end Go.Proofs.Ytiadineakhcclaa

/-
  dates: order; the reference's IsOrder.
-/
namespace Go.Proofs.Ytiadineakhcclaa
open Go.RowKit Go.Deep
set_option linter.unusedVariables false
set_option linter.unusedSimpArgs false

set_option maxHeartbeats 400000 in
theorem jorder_any (J : Option Addr) (jc : Nat) (A : Option Addr) (n c B m : Nat) (l : List Int) (w : World) (hn : l.length = n) (hlen : n ≤ 9223372036854775807) (hm : m ≤ 60) (hA : IntsA w B A l) :
    Calls Try.prog 61 #[.slice J m jc, .slice A n c] w fun e w' => e = .returned (.bool (ordB l m)) ∧ w = w' := by
  subst hn
  generalize hid : ordB l m = r
  have HI := hide hid; clear hid
  go_enter Try.func61, Try.ntmps61
  go_wp2
  go_loop [5, 10] (fun s i => ∃ k M : Nat, k ≤ l.length ∧ i = .int .i64 k ∧ s = .int .i64 M ∧ Hid (MaskOf M (l.take k) ∧ (∀ x ∈ l.take k, 0 ≤ x ∧ x < (m : Int)))) (fun _ i => l.length - (intOf i).toNat)
  case atStart => exact ⟨0, 0, Nat.zero_le _, rfl, rfl, maskOf_nil, fun x hx => by simp at hx⟩
  case round =>
    obtain ⟨k, M, hk, rfl, rfl, HM⟩ := hrel
    have hM62 : M < 2 ^ 60 := Nat.lt_of_lt_of_le (maskOf_lt HM.out.1 HM.out.2) (Nat.pow_le_pow_right (by decide) hm)
    by_cases hlt : k < l.length
    · obtain ⟨b, o, x, rfl, hb, hc, hx⟩ := hA.at_ hlt
      have hmem : Hid (x ∈ l) := by
        rw [← hx.out, List.getD_eq_getElem?_getD, List.getElem?_eq_getElem hlt]; exact List.getElem_mem hlt
      have hbad : ¬ (0 ≤ x ∧ x < (m : Int)) → Hid (r = false) := fun hne => by
        show r = false
        rw [← HI.out]
        cases h : ordB l m with
        | false => rfl
        | true => exact absurd ((ordB_iff.1 h).2.1 x hmem.out) hne
      by_cases h0 : x < 0
      · have hr := hbad (by omega)
        clear hbad
        go_wp2
        go_ret
        exact ⟨by rw [hr.out]; rfl, rfl⟩
      · by_cases h1 : (m : Int) ≤ x
        · have hr := hbad (by omega)
          clear hbad
          go_wp2
          go_ret
          exact ⟨by rw [hr.out]; rfl, rfl⟩
        · obtain ⟨y, rfl⟩ := Int.eq_ofNat_of_zero_le (show 0 ≤ x by omega)
          have hy : y < m := by omega
          clear hbad
          go_wp2
          go_round
          case rel =>
            refine ⟨k + 1, M ||| 2 ^ y, by omega, by go_num, ?_, ?_⟩
            · have h2 : (2 : Nat) ^ y < 2 ^ 60 := Nat.pow_lt_pow_right (by decide) (by omega)
              rw [shl_one y (by omega), bor_nat M _ (by omega) (by omega)]
            · show MaskOf _ _ ∧ _
              rw [take_snoc_int l k hlt, hx.out]
              refine ⟨maskOf_snoc HM.out.1 y, fun z hz => ?_⟩
              simp only [List.mem_append, List.mem_singleton] at hz
              rcases hz with hz | rfl
              · exact HM.out.2 z hz
              · omega
          case measure => simp [intOf]; omega
    · have ht : l.take k = l := List.take_of_length_le (by omega)
      have HM' : Hid (MaskOf M l ∧ (∀ x ∈ l, 0 ≤ x ∧ x < (m : Int))) := by have := HM.out; rw [ht] at this; exact this
      clear ht HM
      by_cases hlm : l.length = m
      · have hB : ((l.length : Int) == (m : Int)) = true := by simp [hlm]
        have HL := hide hlm; clear hlm
        go_wp2
        go_ret
        refine ⟨?_, rfl⟩
        rw [← HI.out]
        have e1 : ordB l m = ((M : Int) == wrap64 (wrap64 (2 ^ m) - 1)) := by
          rw [full_nat m (by omega), Bool.eq_iff_iff, ordB_iff]
          have hf := maskOf_full HM'.out.1 HM'.out.2
          simp only [beq_iff_eq]
          constructor
          · rintro ⟨_, _, h3⟩; rw [hf.2 h3]
          · intro h; exact ⟨HL.out, HM'.out.2, hf.1 (by omega)⟩
        rw [e1]
        rfl
      · have hB : ((l.length : Int) == (m : Int)) = false := by simp; omega
        have HL : Hid (¬ l.length = m) := hlm
        clear hlm
        go_wp2
        go_ret
        refine ⟨?_, rfl⟩
        have e1 : ordB l m = false := by
          cases h : ordB l m with
          | false => rfl
          | true => exact absurd (ordB_iff.1 h).1 HL.out
        rw [← HI.out, e1]
        rfl

theorem nodup_full {l : List Int} {m : Nat} (hd : l.Nodup) (hl : l.length = m) (hb : ∀ x ∈ l, 0 ≤ x ∧ x < (m : Int)) : ∀ x : Nat, x < m → (x : Int) ∈ l := by
  -- the places of a list without repetition: as many as numbers below m
  induction m generalizing l with
  | zero => intro x hx; omega
  | succ m ih =>
    intro x hx
    by_cases hm : (m : Int) ∈ l
    · by_cases e : x = m
      · subst e; exact hm
      · have h1 : (l.erase (m : Int)).Nodup := hd.erase _
        have h2 : (l.erase (m : Int)).length = m := by rw [List.length_erase_of_mem hm, hl]; omega
        have h3 := ih h1 h2 (fun y hy => by
          have h4 := hb y (List.mem_of_mem_erase hy)
          have h5 : y ≠ (m : Int) := fun e => by rw [e] at hy; exact hd.not_mem_erase hy
          omega) x (by omega)
        exact List.mem_of_mem_erase h3
    · exfalso
      -- then all lie below m: too many
      cases l with
      | nil => simp at hl
      | cons a t =>
        have ha := hb a (List.mem_cons_self ..)
        have hd2 : t.Nodup := (List.nodup_cons.1 hd).2
        have hl2 : t.length = m := by simpa using hl
        have h3 := ih hd2 hl2 (fun y hy => by
          have h4 := hb y (List.mem_cons_of_mem _ hy)
          have h5 : y ≠ (m : Int) := fun e => hm (e ▸ List.mem_cons_of_mem _ hy)
          omega)
        have h6 : a ≠ (m : Int) := fun e => hm (e ▸ List.mem_cons_self ..)
        have := h3 a.toNat (by omega)
        rw [show ((a.toNat : Nat) : Int) = a by omega] at this
        exact (List.nodup_cons.1 hd).1 this
set_option maxRecDepth 100000 in
set_option maxHeartbeats 1600000 in
theorem dIsOrder_any (A : Option Addr) (n c m : Nat) (l : List Int) (w : World) (hn : l.length = n) (hlen : n ≤ 9223372036854775807) (hm : m ≤ 8) (hA : IntsA w w.heap.size A l) :
    Calls Try.prog 29 #[.slice A n c, .int .i64 m] w fun e w' => e = .returned (.bool (ordB l m)) ∧ Below w.heap.size w w' := by
  subst hn
  generalize hid : ordB l m = r
  have HI := hide hid; clear hid
  have HA := hide hA; clear hA
  obtain ⟨w1, hw1⟩ : ∃ w1, w1 = w.alloc (.cells #[.bool false, .bool false, .bool false, .bool false, .bool false, .bool false, .bool false, .bool false] 97) := ⟨_, rfl⟩
  have HR1 : Hid (w1.rowIs w.heap.size 97 8 (fun a => .bool (decide ((a : Int) ∈ l.take 0)))) := by
    subst hw1
    refine (World.rowIs_alloc w _ _ (fun _ => .bool false) (fun i hi => ?_)).congr fun a ha => by simp
    have : i < 8 := hi
    match i, this with
    | 0, _ | 1, _ | 2, _ | 3, _ | 4, _ | 5, _ | 6, _ | 7, _ => rfl
  have HB1 : Hid (Below w.heap.size w w1) := by subst hw1; exact (Below.refl _ _).alloc (Nat.le_refl _) _
  go_enter Try.func29, Try.ntmps29
  go_wp2
  rw [← hw1]
  clear hw1
  go_loopw [10] (fun i wr => ∃ k : Nat, k ≤ l.length ∧ i = .int .i64 k ∧ Hid (wr.rowIs w.heap.size 97 8 (fun a => .bool (decide ((a : Int) ∈ l.take k)))) ∧ Hid ((∀ x ∈ l.take k, 0 ≤ x ∧ x < (m : Int)) ∧ (l.take k).Nodup) ∧ Below w.heap.size w wr) (fun i _ => l.length - (intOf i).toNat)
  case atStart => exact ⟨0, Nat.zero_le _, rfl, HR1, ⟨fun x hx => by simp at hx, by simp⟩, HB1.out⟩
  case round =>
    obtain ⟨k, hk, rfl, HR, HM, hb⟩ := hrel
    by_cases hlt : k < l.length
    · obtain ⟨b, o, x, rfl, hbb, hc, hx⟩ := (HA.out.below hb).at_ hlt
      have hmem : Hid (x ∈ l) := by
        rw [← hx.out, List.getD_eq_getElem?_getD, List.getElem?_eq_getElem hlt]; exact List.getElem_mem hlt
      have hbad : ¬ (0 ≤ x ∧ x < (m : Int)) → Hid (r = false) := fun hne => by
        show r = false
        rw [← HI.out]
        cases h : ordB l m with
        | false => rfl
        | true => exact absurd ((ordB_iff.1 h).2.1 x hmem.out) hne
      by_cases h0 : x < 0
      · have hr := hbad (by omega)
        clear hbad
        go_wp2
        go_ret
        exact ⟨by rw [hr.out]; rfl, hb⟩
      · by_cases h1 : (m : Int) ≤ x
        · have hr := hbad (by omega)
          clear hbad
          go_wp2
          go_ret
          exact ⟨by rw [hr.out]; rfl, hb⟩
        · obtain ⟨y, rfl⟩ := Int.eq_ofNat_of_zero_le (show 0 ≤ x by omega)
          have hy : y < m := by omega
          have hy8 : (y : Int) < 8 := by omega
          have hcr := HR.out.cell (i := y) (by omega)
          have hfz := HR.out.frozen y
          have hs3 : w.heap.size < wr.heap.size := HR.out.lt
          have HB := hide hb
          clear hbad hb
          by_cases hin : (y : Int) ∈ l.take k
          · rw [decide_eq_true hin] at hcr
            have hr : Hid (r = false) := by
              show r = false
              rw [← HI.out]
              cases h : ordB l m with
              | false => rfl
              | true =>
                exfalso
                have ho := ordB_iff.1 h
                obtain ⟨j, hj, e⟩ := List.getElem_of_mem hin
                rw [List.length_take] at hj
                rw [List.getElem_take] at e
                have e2 : l[k] = (y : Int) := by rw [getD_cons_of (d := 0) hlt]; exact hx.out
                -- a list of m different numbers below m that names one twice is too long
                have hO := ord_of h
                have hinj := hO.2.inj j k (by rw [← ho.1]; omega) (by rw [← ho.1]; omega)
                have g1 : ∀ i, (hi : i < l.length) → ((toN l).getD i 0 : Int) = l[i] := fun i hi => by
                  rw [getD_cons_of (d := 0) hi, ← up_getD, hO.1]
                have h3 := g1 j (by omega)
                have h4 := g1 k hlt
                have := hinj (by omega)
                omega
            clear hin
            go_wp2
            go_ret
            exact ⟨by rw [hr.out]; rfl, HB.out⟩
          · rw [decide_eq_false hin] at hcr
            have HNI := hide hin
            clear hin
            go_wp2
            go_roundw
            case rel =>
              refine ⟨k + 1, by omega, by go_num, hide ((HR.out.set y _).congr fun a ha => ?_), ?_, HB.out.setCell (Nat.le_refl _) _⟩
              · show (if a = y then Value.bool true else Value.bool (decide ((a : Int) ∈ l.take k))) = Value.bool (decide ((a : Int) ∈ l.take (k + 1)))
                rw [take_snoc_int l k hlt, hx.out]
                by_cases e : a = y
                · subst e; simp
                · have e' : ¬ (a : Int) = (y : Int) := by omega
                  rw [if_neg e]; simp [e']
              · show _ ∧ _
                rw [take_snoc_int l k hlt, hx.out]
                refine ⟨fun z hz => ?_, ?_⟩
                · simp only [List.mem_append, List.mem_singleton] at hz
                  rcases hz with hz | rfl
                  · exact HM.out.1 z hz
                  · omega
                · rw [List.nodup_append]
                  refine ⟨HM.out.2, by simp, fun a ha b hb2 => ?_⟩
                  simp only [List.mem_singleton] at hb2
                  subst hb2
                  exact fun e => HNI.out (e ▸ ha)
            case measure => simp [intOf]; omega
    · have ht : l.take k = l := List.take_of_length_le (by omega)
      have HM' : Hid ((∀ x ∈ l, 0 ≤ x ∧ x < (m : Int)) ∧ l.Nodup) := by have := HM.out; rw [ht] at this; exact this
      clear ht HM
      by_cases hlm : l.length = m
      · have hB : ((l.length : Int) == (m : Int)) = true := by simp [hlm]
        have e1 : Hid (r = true) := by
          show r = true
          rw [← HI.out, ordB_iff]
          refine ⟨hlm, HM'.out.1, fun x hx => ?_⟩
          exact nodup_full HM'.out.2 hlm HM'.out.1 x hx
        clear hlm
        go_wp2
        go_ret
        exact ⟨by rw [e1.out]; rfl, hb⟩
      · have hB : ((l.length : Int) == (m : Int)) = false := by simp; omega
        have e1 : Hid (r = false) := by
          show r = false
          rw [← HI.out]
          cases h : ordB l m with
          | false => rfl
          | true => exact absurd (ordB_iff.1 h).1 hlm
        clear hlm
        go_wp2
        go_ret
        exact ⟨by rw [e1.out]; rfl, hb⟩
end Go.Proofs.Ytiadineakhcclaa

/-
  slices.Equal over ints; slices.Clone of ints.
-/
namespace Go.Proofs.Ytiadineakhcclaa
open Go.RowKit
set_option linter.unusedVariables false
set_option linter.unusedSimpArgs false

theorem eq_of_getD {l l' : List Int} (h : l.length = l'.length) (hall : ∀ j, j < l.length → l.getD j 0 = l'.getD j 0) : l = l' := by
  apply List.ext_getElem h
  intro i h1 h2
  have := hall i h1
  simpa [List.getD_eq_getElem?_getD, h1, h2] using this

set_option maxHeartbeats 400000 in
theorem equal_any (A A' : Option Addr) (n n' c c' B B' : Nat) (l l' : List Int) (w : World) (hn : l.length = n) (hn' : l'.length = n') (hlen : n ≤ 9223372036854775807) (hA : IntsA w B A l) (hA' : IntsA w B' A' l') :
    Calls Try.prog 30 #[.slice A n c, .slice A' n' c'] w fun e w' => e = .returned (.bool (decide (l = l'))) ∧ ∃ m, w' = w.drewN m := by
  subst hn
  by_cases hnn : l.length = n'
  · subst hnn
    have HN := hide hn'
    clear hn'
    have hne : (((l.length : Nat) : Int) != ((l.length : Nat) : Int)) = false := by simp
    generalize hr : decide (l = l') = r
    have HR := hide hr
    clear hr
    go_enter Try.func30, Try.ntmps30
    go_wp2
    go_loopw [13] (fun i wr => ∃ k m : Nat, k ≤ l.length ∧ i = .int .i64 k ∧ wr = w.drewN m ∧ Hid (∀ j, j < k → l.getD j 0 = l'.getD j 0)) (fun i _ => l.length - (intOf i).toNat)
    case atStart => exact ⟨0, 0, Nat.zero_le _, rfl, rfl, fun j hj => absurd hj (by omega)⟩
    case round =>
      obtain ⟨k, m, hk, rfl, rfl, hall⟩ := hrel
      by_cases hlt : k < l.length
      · obtain ⟨b, o, x, rfl, hb, hc, hx⟩ := hA.at_ hlt
        obtain ⟨b', o', x', rfl, hb', hc', hx'⟩ := hA'.at_ (k := k) (by rw [HN.out]; exact hlt)
        by_cases he : x = x'
        · have h1 : (x != x') = false := by simp [he]
          have HE := hide he
          clear he
          go_wp2
          go_quiet (fail)
          go_wp2
          go_roundw
          case rel =>
            refine ⟨k + 1, _, by omega, by go_num, rfl, fun j hj => ?_⟩
            by_cases e : j = k
            · subst e; rw [hx.out, hx'.out, HE.out]
            · exact hall.out j (by omega)
          case measure => simp [intOf]; omega
        · have h1 : (x != x') = true := by simpa using he
          have HE : Hid (¬ x = x') := he
          clear he
          go_wp2
          go_quiet (fail)
          go_wp2
          go_ret
          refine ⟨?_, _, World.drewN_drewN _ _ _⟩
          have : decide (l = l') = false := by
            apply decide_eq_false
            rintro rfl
            exact HE.out (by rw [← hx.out, ← hx'.out])
          rw [← HR.out, this]; rfl
      · go_wp2
        go_ret
        refine ⟨?_, _, rfl⟩
        have : decide (l = l') = true := decide_eq_true (eq_of_getD HN.out.symm (fun j hj => hall.out j (by omega)))
        rw [← HR.out, this]; rfl
  · have hne : (((l.length : Nat) : Int) != (n' : Int)) = true := by simp; omega
    have : decide (l = l') = false := decide_eq_false (fun e => hnn (by rw [e]; exact hn'))
    rw [this]
    clear this hnn hn'
    go_enter Try.func30, Try.ntmps30
    go_wp2
    go_ret
    exact ⟨rfl, 0, rfl⟩

set_option maxHeartbeats 400000 in
theorem clone_any (A : Option Addr) (n c B : Nat) (l : List Int) (w : World) (hn : l.length = n) (hlen : n * 8 ≤ 140737488355328) (hA : IntsA w B A l) :
    Calls Try.prog 63 #[.slice A n c] w fun e w' => ∃ A' c', e = .returned (.slice A' n c') ∧ n ≤ c' ∧ IntsA w' w'.heap.size A' l ∧ (A' = none ↔ A = none) ∧ Below w.heap.size w w' ∧
      (∀ g, (Value.slice A' n c').ownBlock = some g → w.heap.size ≤ g) := by
  have hq := fun (w : World) (a : Option Addr) (n c n' c' : Nat) => Lib.run_eql_slice_nil (P := Try.prog) w 41 _ a n c n' c' Try.underlying41
  cases A with
  | none =>
    have h0 : l = [] := by
      cases l with
      | nil => rfl
      | cons x l => obtain ⟨b, o, e, _⟩ := hA 0 (by simp); cases e
    subst h0
    subst hn
    go_enter Try.func63, Try.ntmps63
    go_wp2
    go_ret
    exact ⟨none, 0, rfl, Nat.le_refl _, IntsA.nil_, by simp, Below.refl _ _, fun g hg => by simp [Value.ownBlock] at hg⟩
  | some ad =>
    have hI : IntsA (w.alloc (.cells #[] 3)) w.heap.size (some ad) l := (hA.top).keep fun p hp => World.cell?_alloc_lt _ _ _ hp
    have HN := hide hn
    clear hn
    go_enter Try.func63, Try.ntmps63
    have hown : (w.alloc (.cells #[] 3)).ownsRow w.heap.size 3 1 (.slice (some ⟨w.heap.size, 0, none⟩) 0 0) 0 [] :=
      ⟨rfl, .inr ⟨w.heap.size, 0, #[], rfl, Nat.le_refl _, alloc_new _ _ _ rfl, Nat.le_refl _, by decide, rfl, rfl⟩⟩
    have HO := hide hown
    clear hown
    go_wp2_with ((at_builtin); refine wpList_appInts _ _ 41 3 (.int .i64 0) 8 rfl rfl Try.underlying41 info_int rfl w.heap.size (.slice (some ⟨w.heap.size, 0, none⟩) 0 0) 0 [] rfl ad n c w.heap.size l rfl HN.out hI HO.out (by omega) (by omega) (by simp) ?_; intro A' c' w1 hown1 hc1 hc2 hgrow hblk hnil; have HOW := hide hown1; have HG := hide hgrow; have HBL := hide hblk; have HNI := hide hnil; clear hown1 hgrow hblk hnil)
    go_ret
    have hlow : ∀ g, (Value.slice A' (0 + n) c').ownBlock = some g → w.heap.size ≤ g := fun g hg => by
      rcases HBL.out with h | h
      · rw [h] at hg; simp [Value.ownBlock] at hg; omega
      · rw [h] at hg; simp at hg; omega
    refine ⟨A', c', ?_, by omega, ints_of_own (by simpa using HOW.out), ?_, ?_, ?_⟩
    · rfl
    · constructor
      · intro h; have := HNI.out h; cases this
      · intro h; cases h
    · exact ((Below.refl _ _).alloc (Nat.le_refl _) _).grown HG.out (by simp) (fun g hg => by simp [Value.ownBlock] at hg; omega)
    · intro g hg; rw [← Nat.zero_add n] at hg; exact hlow g hg
end Go.Proofs.Ytiadineakhcclaa

/-
  Ends in a row; Ends; list.
-/
namespace Go.Proofs.Ytiadineakhcclaa
open Go.RowKit Go.Deep
set_option linter.unusedVariables false
set_option linter.unusedSimpArgs false

/-- When the k-th of a row ends; the ends of the first k. -/
def rowAt (L : List J4) (o : List Int) : Nat → Int
  | 0 => 0
  | k + 1 => rowAt L o k + (L.getD (o.getD k 0).toNat j0).t
def rowTo (L : List J4) (o : List Int) : Nat → List Int
  | 0 => List.replicate L.length 0
  | k + 1 => (rowTo L o k).set (o.getD k 0).toNat (rowAt L o (k + 1))
theorem rowTo_len (L : List J4) (o : List Int) : ∀ k, (rowTo L o k).length = L.length
  | 0 => by simp [rowTo]
  | k + 1 => by rw [rowTo, List.length_set]; exact rowTo_len L o k
def rowN (L : List J4) (o : List Int) : List Int := rowTo L o o.length
set_option maxRecDepth 100000 in
set_option maxHeartbeats 1600000 in
theorem jends_any (A : Option Addr) (n c : Nat) (L : List J4) (O : Option Addr) (m oc : Nat) (o : List Int) (w : World) (hn : L.length = n) (hL : JobsOk L) (hm : o.length = m) (hmm : m ≤ 60) (ho : ∀ x ∈ o, 0 ≤ x ∧ x < (n : Int)) (hA : JobsA w w.heap.size A L) (hO : IntsA w w.heap.size O o) :
    Calls Try.prog 62 #[.slice A n c, .slice O m oc] w fun e w' => ∃ X c', e = .returned (.slice X n c') ∧ n ≤ c' ∧ IntsA w' w'.heap.size X (rowTo L o m) ∧ Below w.heap.size w w' := by
  have h8 : n ≤ 8 := by rw [← hn]; exact hL.le
  have hmk := run_make_row' (P := Try.prog) 41 3 (.int .i64 0) 8 Try.underlying41 info_int rfl .i64 .i64 n (by omega) (by omega)
  obtain ⟨w1, hw1⟩ : ∃ w1, w1 = w.alloc (.cells (madeCells #[.int .i64 0] n) 3) := ⟨_, rfl⟩
  have HR1 : Hid (w1.rowIs w.heap.size 3 n (fun a => .int .i64 ((rowTo L o 0).getD a 0))) := by
    subst hw1
    refine (World.rowIs_made w (.int .i64 0) n _).congr fun a ha => ?_
    rw [rowTo, hn, List.getD_eq_getElem?_getD, List.getElem?_replicate, if_pos ha]; rfl
  have HB1 : Hid (Below w.heap.size w w1) := by subst hw1; exact (Below.refl _ _).alloc (Nat.le_refl _) _
  have HN := hide hn
  have HM := hide hm
  have HOB := hide ho
  have HL := hide hL
  have HA := hide hA
  have HO := hide hO
  clear hm ho hL hA hO hn
  go_enter Try.func62, Try.ntmps62
  go_wp2
  rw [← hw1]
  clear hw1 hmk
  go_loopw [6, 14] (fun v6 v wr => ∃ (k : Nat) (y : Int), k ≤ m ∧ v = .int .i64 k ∧ v6 = .int .i64 y ∧ 0 ≤ y ∧ y ≤ 20 * k ∧ Hid (y = rowAt L o k) ∧ Hid (wr.rowIs w.heap.size 3 n (fun a => .int .i64 ((rowTo L o k).getD a 0))) ∧ Below w.heap.size w wr) (fun _ v _ => m - (intOf v).toNat)
  case atStart => exact ⟨0, 0, Nat.zero_le _, rfl, rfl, by omega, by omega, hide rfl, HR1, HB1.out⟩
  case round =>
    obtain ⟨k, y, hk, rfl, rfl, hy0, hy1, HY, HR, hb⟩ := hrel
    have HB := hide hb
    by_cases hlt : k < m
    · obtain ⟨b2, o2, x, rfl, hb2, hc, hx⟩ := (HO.out.below hb).at_ (k := k) (by rw [HM.out]; exact hlt)
      have hxo := HOB.out x (by rw [← hx.out]; exact getD_mem (by rw [HM.out]; exact hlt))
      obtain ⟨i, rfl⟩ : ∃ i : Nat, x = i := ⟨x.toNat, by omega⟩
      have hi : i < n := by omega
      obtain ⟨bj, oj, t, r, d, u, rfl, hbj, hj0, hj1, hj2, hj3, hxj⟩ := (HA.out.below hb).at_ (k := i) (by rw [HN.out]; exact hi)
      have hkn : (k : Int) < (m : Int) := by omega
      have hin : (i : Int) < (n : Int) := by omega
      have htb := HL.out.at_ i (by rw [HN.out]; exact hi)
      rw [hxj.out] at htb
      simp only [] at htb
      obtain ⟨ht0, ht1, _⟩ := htb
      have hfz := HR.out.frozen i
      obtain ⟨v, hcr⟩ : ∃ v, wr.cell? ⟨w.heap.size, i, none⟩ = some v := ⟨_, HR.out.cell hi⟩
      have hs3 : w.heap.size < wr.heap.size := HR.out.lt
      have HY2 : Hid (y + t = rowAt L o (k + 1)) := by rw [rowAt, hx.out, Int.toNat_natCast, hxj.out, ← HY.out]; exact hide rfl
      have HX := hide hx.out
      clear hx hxj hb hxo
      go_wp2
      go_roundw
      case rel =>
        refine ⟨k + 1, _, by omega, by go_num, rfl, by omega, by omega, HY2, hide ((HR.out.set i _).congr fun a ha => ?_), HB.out.setCell (Nat.le_refl _) _⟩
        rw [rowTo, HX.out, Int.toNat_natCast, ← HY2.out]
        show (if a = i then Value.int .i64 (y + t) else Value.int .i64 ((rowTo L o k).getD a 0)) = Value.int .i64 (((rowTo L o k).set i (y + t)).getD a 0)
        rw [getD_set_i _ _ _ _ _ (by rw [rowTo_len, HN.out]; exact hi)]
        by_cases e : a = i
        · rw [if_pos e, if_pos e]
        · rw [if_neg e, if_neg e]
      case measure => simp [intOf] <;> omega
    · obtain rfl : m = k := by omega
      have HI := hide (ints_of_row HR.out (by rw [rowTo_len, HN.out]) (fun i hi => rfl))
      go_wp2
      go_ret
      exact ⟨_, n, rfl, Nat.le_refl _, HI.out, hb⟩
set_option maxRecDepth 100000 in
set_option maxHeartbeats 1600000 in
theorem refEnds_any (A : Option Addr) (n c : Nat) (L : List J4) (O : Option Addr) (m oc : Nat) (o : List Int) (w : World) (hn : L.length = n) (hL : JobsOk L) (hm : o.length = m) (hmm : m ≤ 60) (ho : ∀ x ∈ o, 0 ≤ x ∧ x < (n : Int)) (hA : JobsA w w.heap.size A L) (hO : IntsA w w.heap.size O o) :
    Calls Try.prog 31 #[.slice A n c, .slice O m oc] w fun e w' => ∃ X c', e = .returned (.slice X n c') ∧ n ≤ c' ∧ IntsA w' w'.heap.size X (rowTo L o m) ∧ Below w.heap.size w w' := by
  have h8 : n ≤ 8 := by rw [← hn]; exact hL.le
  have hmk := run_make_row' (P := Try.prog) 41 3 (.int .i64 0) 8 Try.underlying41 info_int rfl .i64 .i64 n (by omega) (by omega)
  obtain ⟨w1, hw1⟩ : ∃ w1, w1 = w.alloc (.cells (madeCells #[.int .i64 0] n) 3) := ⟨_, rfl⟩
  have HR1 : Hid (w1.rowIs w.heap.size 3 n (fun a => .int .i64 ((rowTo L o 0).getD a 0))) := by
    subst hw1
    refine (World.rowIs_made w (.int .i64 0) n _).congr fun a ha => ?_
    rw [rowTo, hn, List.getD_eq_getElem?_getD, List.getElem?_replicate, if_pos ha]; rfl
  have HB1 : Hid (Below w.heap.size w w1) := by subst hw1; exact (Below.refl _ _).alloc (Nat.le_refl _) _
  have HN := hide hn
  have HM := hide hm
  have HOB := hide ho
  have HL := hide hL
  have HA := hide hA
  have HO := hide hO
  clear hm ho hL hA hO hn
  go_enter Try.func31, Try.ntmps31
  go_wp2
  rw [← hw1]
  clear hw1 hmk
  go_loopw [6, 14] (fun v6 v wr => ∃ (k : Nat) (y : Int), k ≤ m ∧ v = .int .i64 k ∧ v6 = .int .i64 y ∧ 0 ≤ y ∧ y ≤ 20 * k ∧ Hid (y = rowAt L o k) ∧ Hid (wr.rowIs w.heap.size 3 n (fun a => .int .i64 ((rowTo L o k).getD a 0))) ∧ Below w.heap.size w wr) (fun _ v _ => m - (intOf v).toNat)
  case atStart => exact ⟨0, 0, Nat.zero_le _, rfl, rfl, by omega, by omega, hide rfl, HR1, HB1.out⟩
  case round =>
    obtain ⟨k, y, hk, rfl, rfl, hy0, hy1, HY, HR, hb⟩ := hrel
    have HB := hide hb
    by_cases hlt : k < m
    · obtain ⟨b2, o2, x, rfl, hb2, hc, hx⟩ := (HO.out.below hb).at_ (k := k) (by rw [HM.out]; exact hlt)
      have hxo := HOB.out x (by rw [← hx.out]; exact getD_mem (by rw [HM.out]; exact hlt))
      obtain ⟨i, rfl⟩ : ∃ i : Nat, x = i := ⟨x.toNat, by omega⟩
      have hi : i < n := by omega
      obtain ⟨bj, oj, t, r, d, u, rfl, hbj, hj0, hj1, hj2, hj3, hxj⟩ := (HA.out.below hb).at_ (k := i) (by rw [HN.out]; exact hi)
      have hkn : (k : Int) < (m : Int) := by omega
      have hin : (i : Int) < (n : Int) := by omega
      have htb := HL.out.at_ i (by rw [HN.out]; exact hi)
      rw [hxj.out] at htb
      simp only [] at htb
      obtain ⟨ht0, ht1, _⟩ := htb
      have hfz := HR.out.frozen i
      obtain ⟨v, hcr⟩ : ∃ v, wr.cell? ⟨w.heap.size, i, none⟩ = some v := ⟨_, HR.out.cell hi⟩
      have hs3 : w.heap.size < wr.heap.size := HR.out.lt
      have HY2 : Hid (y + t = rowAt L o (k + 1)) := by rw [rowAt, hx.out, Int.toNat_natCast, hxj.out, ← HY.out]; exact hide rfl
      have HX := hide hx.out
      clear hx hxj hb hxo
      go_wp2
      go_roundw
      case rel =>
        refine ⟨k + 1, _, by omega, by go_num, rfl, by omega, by omega, HY2, hide ((HR.out.set i _).congr fun a ha => ?_), HB.out.setCell (Nat.le_refl _) _⟩
        rw [rowTo, HX.out, Int.toNat_natCast, ← HY2.out]
        show (if a = i then Value.int .i64 (y + t) else Value.int .i64 ((rowTo L o k).getD a 0)) = Value.int .i64 (((rowTo L o k).set i (y + t)).getD a 0)
        rw [getD_set_i _ _ _ _ _ (by rw [rowTo_len, HN.out]; exact hi)]
        by_cases e : a = i
        · rw [if_pos e, if_pos e]
        · rw [if_neg e, if_neg e]
      case measure => simp [intOf] <;> omega
    · obtain rfl : m = k := by omega
      have HI := hide (ints_of_row HR.out (by rw [rowTo_len, HN.out]) (fun i hi => rfl))
      go_wp2
      go_ret
      exact ⟨_, n, rfl, Nat.le_refl _, HI.out, hb⟩
theorem IntsA.take {w : World} {B : Nat} {A : Option Addr} {l : List Int} (h : IntsA w B A l) (k : Nat) : IntsA w B A (l.take k) := by
  intro i hi
  simp only [List.length_take] at hi
  obtain ⟨b, o, e, hb, hc⟩ := h i (by omega)
  refine ⟨b, o, e, hb, ?_⟩
  rw [hc]
  simp only [List.getD_eq_getElem?_getD, List.getElem?_take]
  rw [if_pos (by omega)]

set_option maxHeartbeats 400000 in
theorem dlist_any (A : Option Addr) (n c B : Nat) (l : List Int) (w : World) (hn : l.length = n) (hc : n ≤ c) (hlen : n ≤ 9223372036854775807) (hA : IntsA w B A l) :
    Calls Try.prog 28 #[.slice A n c] w fun e w' => ∃ A' c', e = .returned (.slice A' (l.take 10).length c') ∧ (l.take 10).length ≤ c' ∧ IntsA w' w'.heap.size A' (l.take 10) ∧ Below w.heap.size w w' ∧
      (∀ g, (Value.slice A' (l.take 10).length c').ownBlock = some g → w.heap.size ≤ g) := by
  have hm : (l.take 10).length = min n 10 := by rw [List.length_take, hn, Nat.min_comm]
  generalize hk : (l.take 10).length = k
  have HC := hide (clone_any A k c B (l.take 10) w hk (by omega) (hA.take 10))
  have HN := hide hn
  have hkm : k = min n 10 := by omega
  clear hn hm hk
  rcases Nat.lt_or_ge 10 n with h7 | h7
  · obtain rfl : k = 10 := by omega
    clear hkm
    go_enter Try.func28, Try.ntmps28
    go_wp2_with (go_at_call 63; refine (HC.out).mono ?_; rintro e w' ⟨A', c', rfl, h1, h2, h3, h4, h5⟩; have H5 := hide h5; clear h5)
    go_ret
    exact ⟨A', c', rfl, h1, h2, h4, H5.out⟩
  · obtain rfl : n = k := by omega
    clear hkm
    go_enter Try.func28, Try.ntmps28
    go_wp2_with (go_at_call 63; refine (HC.out).mono ?_; rintro e w' ⟨A', c', rfl, h1, h2, h3, h4, h5⟩; have H5 := hide h5; clear h5)
    go_ret
    exact ⟨A', c', rfl, h1, h2, h4, H5.out⟩

set_option maxHeartbeats 800000 in
theorem ends_no (A : Option Addr) (n c : Nat) (L : List J4) (O : Option Addr) (m oc : Nat) (o : List Int) (w : World) (hn : L.length = n) (hlen : n ≤ 9223372036854775807) (hA : JobsA w w.heap.size A L) (hm : o.length = m) (hlm : m ≤ 9223372036854775807) (hO : IntsA w w.heap.size O o) (hv : jobsB L = false ∨ jobsB L = true ∧ ordB o n = false) :
    Calls Try.prog 27 #[.slice A n c, .slice O m oc] w fun e w' => e = .returned (.tuple #[.slice none 0 0, .int .i64 2]) ∧ Below w.heap.size w w' := by
  have HV := hide (jvalid_any A n c L w hn hlen hA)
  rcases hv with hv | ⟨hv, ho⟩
  · rw [hv] at HV
    clear hv hA hn hO hm
    go_enter Try.func27, Try.ntmps27
    go_wp2_with (first
      | (go_at_call 54; refine (HV.out).mono ?_; rintro e w1 ⟨rfl, hb1⟩; have HB1 := hide hb1; clear hb1))
    go_ret2
    exact ⟨rfl, HB1.out⟩
  · rw [hv] at HV
    have h8 : n ≤ 8 := by rw [← hn]; exact (jobsB_iff.1 hv).le
    have HOR := hide (fun w1 (hb : Below w.heap.size w w1) => jorder_any A c O m oc w1.heap.size n o w1 hm hlm (by omega) (hO.next hb))
    rw [ho] at HOR
    clear hv hA hn hO hm ho
    go_enter Try.func27, Try.ntmps27
    go_wp2_with (first
      | (go_at_call 54; refine (HV.out).mono ?_; rintro e w1 ⟨rfl, hb1⟩; have HB1 := hide hb1; clear hb1)
      | (go_at_call 61; refine (HOR.out _ HB1.out).mono ?_; rintro e w2 ⟨rfl, rfl⟩))
    go_ret2
    exact ⟨rfl, HB1.out⟩
set_option maxHeartbeats 800000 in
theorem ends_yes (A : Option Addr) (n c : Nat) (L : List J4) (O : Option Addr) (m oc : Nat) (o : List Int) (w : World) (hn : L.length = n) (hlen : n ≤ 9223372036854775807) (hA : JobsA w w.heap.size A L) (hm : o.length = m) (hlm : m ≤ 9223372036854775807) (hO : IntsA w w.heap.size O o) (hv : jobsB L = true) (ho : ordB o n = true) :
    Calls Try.prog 27 #[.slice A n c, .slice O m oc] w fun e w' => ∃ X c', e = .returned (.tuple #[.slice X n c', .int .i64 0]) ∧ n ≤ c' ∧ IntsA w' w'.heap.size X (rowN L o) ∧ Below w.heap.size w w' := by
  have HV := hide (jvalid_any A n c L w hn hlen hA)
  rw [hv] at HV
  have h8 : n ≤ 8 := by rw [← hn]; exact (jobsB_iff.1 hv).le
  have ho' := ordB_iff.1 ho
  have HOR := hide (fun w1 (hb : Below w.heap.size w w1) => jorder_any A c O m oc w1.heap.size n o w1 hm hlm (by omega) (hO.next hb))
  rw [ho] at HOR
  have HE := hide (fun w1 (hb : Below w.heap.size w w1) => jends_any A n c L O m oc o w1 hn (jobsB_iff.1 hv) hm (by omega) ho'.2.1 (hA.next hb) (hO.next hb))
  have HRN : Hid (rowTo L o m = rowN L o) := by rw [rowN, hm]; exact hide rfl
  rw [HRN.out] at HE
  clear hv hA hn hO hm ho ho'
  go_enter Try.func27, Try.ntmps27
  go_wp2_with (first
    | (go_at_call 54; refine (HV.out).mono ?_; rintro e w1 ⟨rfl, hb1⟩; have HB1 := hide hb1; clear hb1)
    | (go_at_call 61; refine (HOR.out _ HB1.out).mono ?_; rintro e w2 ⟨rfl, rfl⟩)
    | (go_at_call 62; refine (HE.out _ HB1.out).mono ?_; rintro e w3 ⟨X, c', rfl, hc', hI, hb3⟩; have HI := hide hI; have HB3 := hide (HB1.out.trans (hb3.mono HB1.out.size)); clear hI hb3))
  go_ret2
  exact ⟨X, c', rfl, hc', HI.out, HB3.out⟩
end Go.Proofs.Ytiadineakhcclaa

/-
  dates (plain): a set that fits is on time when it is done first, by Due; what is on time in an order fits; best is the greatest.
-/
namespace Go.Proofs.Ytiadineakhcclaa
open Go.RowKit
set_option linter.unusedVariables false
set_option linter.unusedSimpArgs false

/-- Different places of a row: their sum is no greater than the whole. -/
theorem inj_sum (n : Nat) (s : Nat → Nat) : ∀ k, (∀ i, i < k → s i < n) → (∀ a b, a < b → b < k → s a ≠ s b) → ∀ g : Nat → Int, (∀ i, i < n → 0 ≤ g i) → sumF (fun i => g (s i)) k ≤ sumF g n
  | 0, _, _, g, hg => sumF_nonneg n hg
  | k + 1, hs, hi, g, hg => by
      have h1 := inj_sum n s k (fun i hik => hs i (by omega)) (fun a b hab hb => hi a b hab (by omega)) (fun j => if j = s k then 0 else g j) (fun i hin => by
        show 0 ≤ if i = s k then (0 : Int) else g i
        split
        · exact Int.le_refl _
        · exact hg i hin)
      have h2 : sumF (fun i => (fun j => if j = s k then (0 : Int) else g j) (s i)) k = sumF (fun i => g (s i)) k := sumF_congr k fun i hik => by
        show (if s i = s k then (0 : Int) else g (s i)) = _
        rw [if_neg (hi i k hik (by omega))]
      have h3 := sumF_one (f := g) (g := fun j => if j = s k then (0 : Int) else g j) (i := s k) n (fun j _ hne => by
        show g j = if j = s k then (0 : Int) else g j
        rw [if_neg hne])
      rw [if_pos (hs k (by omega))] at h3
      rw [if_pos rfl] at h3
      show sumF (fun i => g (s i)) k + g (s k) ≤ _
      rw [← h2]
      have h1' : sumF (fun i => (fun j => if j = s k then (0 : Int) else g j) (s i)) k ≤ sumF (fun j => if j = s k then (0 : Int) else g j) n := h1
      omega
theorem rowAt_sum (L : List J4) (o : List Int) : ∀ k, rowAt L o k = sumF (fun i => (L.getD (o.getD i 0).toNat j0).t) k
  | 0 => rfl
  | k + 1 => by rw [rowAt, rowAt_sum L o k]; rfl
theorem rowAt_mono {L : List J4} (hL : ∀ i, i < L.length → 0 ≤ (L.getD i j0).t) {o : List Int} (ho : ∀ x ∈ o, 0 ≤ x ∧ x < (L.length : Int)) {a b : Nat} (h : a ≤ b) (hb : b ≤ o.length) : rowAt L o a ≤ rowAt L o b := by
  induction b with
  | zero =>
    obtain rfl : a = 0 := by omega
    exact Int.le_refl _
  | succ b ih =>
    by_cases e : a = b + 1
    · subst e; exact Int.le_refl _
    · have h1 := ih (by omega) (by omega)
      have h2 := ho (o.getD b 0) (by rw [← getD_cons_of (d := (0 : Int)) (by omega)]; exact List.getElem_mem _)
      have h3 := hL (o.getD b 0).toNat (by omega)
      rw [rowAt]; omega
/-- The end of the k-th of a row of different jobs. -/
theorem rowTo_at {L : List J4} {o : List Int} (ho : ∀ x ∈ o, 0 ≤ x ∧ x < (L.length : Int)) (hd : ∀ a b, a < b → b < o.length → o.getD a 0 ≠ o.getD b 0) : ∀ m, m ≤ o.length → ∀ k, k < m → (rowTo L o m).getD (o.getD k 0).toNat 0 = rowAt L o (k + 1)
  | 0, _, k, hk => absurd hk (by omega)
  | m + 1, hm, k, hk => by
      have hmem : ∀ j, j < o.length → 0 ≤ o.getD j 0 ∧ o.getD j 0 < (L.length : Int) := fun j hj => ho _ (by rw [← getD_cons_of (d := (0 : Int)) hj]; exact List.getElem_mem _)
      have h1 := hmem m (by omega)
      have h2 := hmem k (by omega)
      rw [rowTo, getD_set_i _ _ _ _ _ (by rw [rowTo_len]; omega)]
      by_cases e : k = m
      · subst e; rw [if_pos rfl]
      · have h3 := hd k m (by omega) (by omega)
        rw [if_neg (fun h => h3 (by omega))]
        exact rowTo_at ho hd m (by omega) k (by omega)
theorem ord_ne {o : List Int} {n : Nat} (h : ordB o n = true) : ∀ a b, a < b → b < o.length → o.getD a 0 ≠ o.getD b 0 := by
  obtain ⟨hl, _, h3⟩ := ordB_iff.1 h
  intro a b hab hb e
  rw [← getD_cons_of (d := (0 : Int)) (by omega), ← getD_cons_of (d := (0 : Int)) hb] at e
  have hnd : ((List.range n).map fun x : Nat => (x : Int)).Nodup := by
    rw [List.nodup_iff_pairwise_ne, List.pairwise_map]
    refine List.Pairwise.imp_of_mem ?_ List.nodup_range
    intro x y _ _ hne e2
    exact hne (by omega)
  have hle := List.Nodup.length_le_of_subset hnd (l₂ := o.eraseIdx b) (fun x hx => by
    obtain ⟨y, hy, rfl⟩ := List.mem_map.1 hx
    obtain ⟨p, hp, e3⟩ := List.mem_iff_getElem.1 (h3 y (List.mem_range.1 hy))
    rw [List.mem_eraseIdx_iff_getElem]
    by_cases hpb : p = b
    · subst hpb
      exact ⟨a, by omega, by omega, by rw [e, e3]⟩
    · exact ⟨p, hp, hpb, e3⟩)
  rw [List.length_map, List.length_range, List.length_eraseIdx, if_pos hb] at hle
  omega
/-- Jobs of S first, by Due: each ends when the work of S up to it is done. -/
theorem first_work {L : List J4} (hL : ∀ i, i < L.length → 0 ≤ (L.getD i j0).t) {S q : Nat} {s s0 : Nat → Nat} {o : List Int} (hs : Sorted0 (due L) s0 s q q) (h0 : ∀ k, k < q → s0 k < L.length ∧ S.testBit (s0 k) = true)
    (ho : ∀ k, k < q → o.getD k 0 = (s k : Nat)) {k : Nat} (hk : k < q) : rowAt L o (k + 1) ≤ workK L S (s k) := by
  have hsb : ∀ i, i < q → s i < L.length ∧ S.testBit (s i) = true := fun i hi => by
    obtain ⟨m, hm, e⟩ := hs.low i hi
    rw [e]; exact h0 m hm
  have h1 := inj_sum L.length s (k + 1) (fun i hi => (hsb i (by omega)).1) (fun a b hab hb e => by
    have := hs.sorted a b hab (by omega)
    unfold ltK at this; rw [e] at this; omega) (fun j => if S.testBit j = true ∧ leK (due L) j (s k) then (L.getD j j0).t else 0) (fun i hi => by
    have := hL i hi
    split
    · omega
    · exact Int.le_refl _)
  rw [rowAt_sum]
  refine Int.le_trans (Int.le_of_eq (sumF_congr _ fun i hi => ?_)) h1
  show _ = if S.testBit (s i) = true ∧ leK (due L) (s i) (s k) then (L.getD (s i) j0).t else 0
  rw [if_pos ⟨(hsb i (by omega)).2, by
    by_cases e : i = k
    · subst e; exact .inr rfl
    · exact .inl (hs.sorted i k (by omega) hk)⟩, ho i (by omega), Int.toNat_natCast]
/-- What is on time in an order fits. -/
theorem ontime_fits {L : List J4} (hL : ∀ i, i < L.length → 0 ≤ (L.getD i j0).t) {o : List Int} (ho : ordB o L.length = true) {T : Nat} (hT : ∀ j, j < L.length → T.testBit j = true → (rowN L o).getD j 0 ≤ (L.getD j j0).d) : fitB L T = true := by
  have hoi := ordB_iff.1 ho
  have hlen := hoi.1
  have hmem : ∀ j, j < L.length → 0 ≤ o.getD j 0 ∧ o.getD j 0 < (L.length : Int) := fun j hj => hoi.2.1 _ (by rw [← getD_cons_of (d := (0 : Int)) (by omega)]; exact List.getElem_mem _)
  obtain ⟨pos, hpos⟩ : ∃ pos : Nat → Nat, ∀ j, j < L.length → pos j < L.length ∧ o.getD (pos j) 0 = (j : Nat) := by
    have h1 : ∀ j : Nat, ∃ p : Nat, j < L.length → p < L.length ∧ o.getD p 0 = (j : Nat) := fun j => by
      by_cases hj : j < L.length
      · obtain ⟨p, hp, e⟩ := List.mem_iff_getElem.1 (hoi.2.2 j hj)
        exact ⟨p, fun _ => ⟨by omega, by rw [← getD_cons_of (d := (0 : Int)) hp]; exact e⟩⟩
      · exact ⟨0, fun h => absurd h hj⟩
    exact Classical.axiomOfChoice h1
  rw [fitB, decide_eq_true_iff]
  intro i hi hbi
  -- the last of those of T up to i
  have hlast : ∀ m, m ≤ L.length → (∀ k, k < m → ¬ (T.testBit (o.getD k 0).toNat = true ∧ leK (due L) (o.getD k 0).toNat i)) ∨ ∃ k, k < m ∧ T.testBit (o.getD k 0).toNat = true ∧ leK (due L) (o.getD k 0).toNat i ∧ ∀ k', k < k' → k' < m → ¬ (T.testBit (o.getD k' 0).toNat = true ∧ leK (due L) (o.getD k' 0).toNat i) := fun m => by
    induction m with
    | zero => intro _; exact .inl fun k hk => by omega
    | succ m ih =>
      intro hm
      by_cases h : T.testBit (o.getD m 0).toNat = true ∧ leK (due L) (o.getD m 0).toNat i
      · exact .inr ⟨m, by omega, h.1, h.2, fun k' h1 h2 => by omega⟩
      · rcases ih (by omega) with h1 | ⟨k, h1, h2, h3, h4⟩
        · exact .inl fun k hk => by
            by_cases e : k = m
            · subst e; exact h
            · exact h1 k (by omega)
        · exact .inr ⟨k, by omega, h2, h3, fun k' h5 h6 => by
            by_cases e : k' = m
            · subst e; exact h
            · exact h4 k' h5 (by omega)⟩
  rcases hlast L.length (Nat.le_refl _) with h1 | ⟨k, hk, hkT, hkl, hno⟩
  · exfalso
    have h2 := hpos i hi
    refine h1 _ h2.1 ?_
    rw [h2.2, Int.toNat_natCast]
    exact ⟨hbi, .inr rfl⟩
  · have hkm := hmem k hk
    have h2 := hT (o.getD k 0).toNat (by omega) hkT
    rw [rowN, rowTo_at (by exact hoi.2.1) (ord_ne ho) o.length (Nat.le_refl _) k (by omega)] at h2
    have h3 : (L.getD (o.getD k 0).toNat j0).d ≤ (L.getD i j0).d := by
      unfold leK ltK due at hkl
      rcases hkl with hkl | hkl
      · omega
      · rw [hkl]; exact Int.le_refl _
    have h4 : workK L T i ≤ rowAt L o (k + 1) := by
      have hpi := inj_sum L.length pos L.length (fun j hj => (hpos j hj).1) (fun a b hab hb e => by
        have h5 := (hpos a (by omega)).2
        have h6 := (hpos b hb).2
        rw [e, h6] at h5; omega) (fun k' => if T.testBit (o.getD k' 0).toNat = true ∧ leK (due L) (o.getD k' 0).toNat i then (L.getD (o.getD k' 0).toNat j0).t else 0) (fun j hj => by
        have := hmem j hj
        have := hL (o.getD j 0).toNat (by omega)
        split
        · omega
        · exact Int.le_refl _)
      have h5 : workK L T i = sumF (fun j => (fun k' => if T.testBit (o.getD k' 0).toNat = true ∧ leK (due L) (o.getD k' 0).toNat i then (L.getD (o.getD k' 0).toNat j0).t else 0) (pos j)) L.length := by
        unfold workK
        refine sumF_congr _ fun j hj => ?_
        show _ = if _ then _ else _
        rw [(hpos j hj).2, Int.toNat_natCast]
      rw [h5]
      refine Int.le_trans hpi ?_
      have h6 : ∀ m, m ≤ L.length → sumF (fun k' => if T.testBit (o.getD k' 0).toNat = true ∧ leK (due L) (o.getD k' 0).toNat i then (L.getD (o.getD k' 0).toNat j0).t else 0) m ≤ rowAt L o (min m (k + 1)) := fun m => by
        induction m with
        | zero => intro _; rw [Nat.zero_min]; exact Int.le_refl _
        | succ m ih =>
          intro hm
          have h7 := ih (by omega)
          have h8 := hmem m (by omega)
          have h9 := hL (o.getD m 0).toNat (by omega)
          rw [sumF]
          by_cases hmk : m ≤ k
          · rw [show min m (k + 1) = m by omega] at h7
            rw [show min (m + 1) (k + 1) = m + 1 by omega, rowAt]
            split <;> omega
          · rw [show min m (k + 1) = k + 1 by omega] at h7
            rw [show min (m + 1) (k + 1) = k + 1 by omega, if_neg (hno m (by omega) (by omega))]
            omega
      have h7 := h6 L.length (Nat.le_refl _)
      rw [show min L.length (k + 1) = k + 1 by omega] at h7
      exact h7
    omega
theorem bestV_max {v : Nat → Int} {f : Nat → Bool} : ∀ k S, S < k → f S = true → v S ≤ v (bestV v f k)
  | 0, S, h, _ => by omega
  | k + 1, S, h, hf => by
      unfold bestV
      by_cases e : S = k
      · subst e
        by_cases hc : v (bestV v f S) < v S ∧ f S = true
        · rw [if_pos hc]; exact Int.le_refl _
        · rw [if_neg hc]
          have : ¬ v (bestV v f S) < v S := fun h => hc ⟨h, hf⟩
          omega
      · have h1 := bestV_max (v := v) k S (by omega) hf
        split
        · omega
        · exact h1
theorem bestV_fit {v : Nat → Int} {f : Nat → Bool} (h0 : f 0 = true) : ∀ k, f (bestV v f k) = true
  | 0 => h0
  | k + 1 => by
      unfold bestV
      split
      · rename_i h; exact h.2
      · exact bestV_fit h0 k
theorem fitB_zero (L : List J4) : fitB L 0 = true := by
  rw [fitB, decide_eq_true_iff]
  intro i _ h
  rw [Nat.zero_testBit] at h; cases h
theorem mostN_fit (L : List J4) : fitB L (mostN L) = true := bestV_fit (fitB_zero L) _
theorem weighN_fit (L : List J4) : fitB L (weighN L) = true := bestV_fit (fitB_zero L) _
theorem mostN_lt' (L : List J4) : mostN L < 2 ^ L.length := bestV_lt _ _ _ (Nat.two_pow_pos _)
theorem weighN_lt' (L : List J4) : weighN L < 2 ^ L.length := bestV_lt _ _ _ (Nat.two_pow_pos _)
theorem most_max {L : List J4} {T : Nat} (hn : L.length ≤ 8) (hT : T < 2 ^ L.length) (h : fitB L T = true) : cardF L.length T ≤ cardF L.length (mostN L) := by
  have h1 := bestV_max (v := fun S => (cardF 8 S : Int)) (f := fitB L) (2 ^ L.length) T hT h
  have h2 : (cardF 8 T : Int) ≤ (cardF 8 (mostN L) : Int) := h1
  rw [cardF_8 hT hn, cardF_8 (mostN_lt' L) hn] at h2
  omega
theorem weigh_max {L : List J4} {T : Nat} (hT : T < 2 ^ L.length) (h : fitB L T = true) : wtN L T L.length ≤ wtN L (weighN L) L.length :=
  bestV_max (v := fun S => wtN L S L.length) (f := fitB L) (2 ^ L.length) T hT h
end Go.Proofs.Ytiadineakhcclaa

/-
  dates (plain): the least greatest delay by sets, and the first order that has it.
-/
namespace Go.Proofs.Ytiadineakhcclaa
open Go.RowKit
set_option linter.unusedVariables false
set_option linter.unusedSimpArgs false

def atS (L : List J4) (S : Nat) : Int := sumF (fun i => if S.testBit i = true then (L.getD i j0).t else 0) L.length
/-- Job i may come next behind the set S. -/
def mayB (B : Nat → Nat) (S i : Nat) : Bool := !S.testBit i && decide (sdiff (B i) S = 0)
def valJ (L : List J4) (S i : Nat) (x : Int) : Int := max x (atS L S + (L.getD i j0).t - (L.getD i j0).d)
def foldW (L : List J4) (B : Nat → Nat) (S : Nat) (r : Nat → Option Int) : Nat → Option Int
  | 0 => none
  | k + 1 =>
    if mayB B S k = true then
      match r (S ||| 2 ^ k) with
      | none => foldW L B S r k
      | some x =>
        match foldW L B S r k with
        | none => some (valJ L S k x)
        | some b => if valJ L S k x < b then some (valJ L S k x) else some b
    else foldW L B S r k
/-- The least greatest delay behind the set S, d jobs to come. -/
def worstF (L : List J4) (B : Nat → Nat) : Nat → Nat → Option Int
  | 0, _ => some (-1000)
  | d + 1, S => foldW L B S (worstF L B d) L.length
def nextB (L : List J4) (B : Nat → Nat) (d S : Nat) (a v : Int) (i : Nat) : Bool :=
  mayB B S i && decide (a + (L.getD i j0).t - (L.getD i j0).d ≤ v) && (match worstF L B d (S ||| 2 ^ i) with | none => false | some x => decide (x ≤ v))
def gr (L : List J4) (B : Nat → Nat) : Nat → Nat → Int → Int → List Nat
  | 0, _, _, _ => []
  | d + 1, S, a, v => match (List.range L.length).find? (nextB L B d S a v) with
    | none => []
    | some i => i :: gr L B d (S ||| 2 ^ i) (a + (L.getD i j0).t) v
def lateOf (L : List J4) : Int → List Nat → Int
  | _, [] => -1000
  | a, i :: r => max (a + (L.getD i j0).t - (L.getD i j0).d) (lateOf L (a + (L.getD i j0).t) r)
def okO (n : Nat) (B : Nat → Nat) : Nat → List Nat → Prop
  | _, [] => True
  | S, i :: r => i < n ∧ mayB B S i = true ∧ okO n B (S ||| 2 ^ i) r

/-! Sets. -/
theorem or_bit (S k i : Nat) : (S ||| 2 ^ k).testBit i = (S.testBit i || decide (k = i)) := by rw [Nat.testBit_or, Nat.testBit_two_pow]
theorem or_lt {S k n : Nat} (hS : S < 2 ^ n) (hk : k < n) : S ||| 2 ^ k < 2 ^ n := Nat.or_lt_two_pow hS (Nat.pow_lt_pow_right (by decide) hk)
theorem may_bit {B : Nat → Nat} {S i : Nat} (h : mayB B S i = true) : S.testBit i = false := by
  unfold mayB at h; simp at h; exact h.1
theorem card_or {S k : Nat} (hb : S.testBit k = false) : ∀ n, cardF n (S ||| 2 ^ k) = cardF n S + if k < n then 1 else 0
  | 0 => by simp [cardF]
  | n + 1 => by
      rw [cardF, cardF, card_or hb n, or_bit]
      by_cases e : k = n
      · subst e; rw [hb]; simp
      · have e2 : decide (k = n) = false := decide_eq_false e
        rw [e2, Bool.or_false]
        have e3 : (k < n + 1) = (k < n) := by rw [eq_iff_iff]; omega
        simp only [e3]; omega
theorem card_full {S n : Nat} (hS : S < 2 ^ n) : cardF n S = n ↔ S = 2 ^ n - 1 := by
  constructor
  · intro h
    have hall : ∀ m, m ≤ n → cardF m S = m → ∀ i, i < m → S.testBit i = true := fun m => by
      induction m with
      | zero => intro _ _ i hi; omega
      | succ m ih =>
        intro hm hc i hi
        rw [cardF] at hc
        have h1 := cardF_le m S
        by_cases hb : S.testBit m = true
        · rw [if_pos hb] at hc
          by_cases e : i = m
          · subst e; exact hb
          · exact ih (by omega) (by omega) i (by omega)
        · rw [if_neg hb] at hc; omega
    apply Nat.eq_of_testBit_eq
    intro i
    rw [Nat.testBit_two_pow_sub_one]
    by_cases hi : i < n
    · rw [hall n (Nat.le_refl _) h i hi, decide_eq_true hi]
    · rw [decide_eq_false hi]
      exact Nat.testBit_lt_two_pow (Nat.lt_of_lt_of_le hS (Nat.pow_le_pow_right (by decide) (by omega)))
  · rintro rfl; exact cardF_full n
theorem atS_or {L : List J4} {S k : Nat} (hb : S.testBit k = false) (hk : k < L.length) : atS L (S ||| 2 ^ k) = atS L S + (L.getD k j0).t := by
  unfold atS
  have h := sumF_one (f := fun i => if (S ||| 2 ^ k).testBit i = true then (L.getD i j0).t else 0) (g := fun i => if S.testBit i = true then (L.getD i j0).t else 0) (i := k) L.length (fun j _ hne => by
    show (if (S ||| 2 ^ k).testBit j = true then (L.getD j j0).t else 0) = if S.testBit j = true then (L.getD j j0).t else 0
    rw [or_bit, decide_eq_false (fun e => hne e.symm), Bool.or_false])
  rw [h, if_pos hk]
  simp only [or_bit, hb]
  simp
theorem atS_zero (L : List J4) : atS L 0 = 0 := by
  unfold atS
  rw [sumF_congr L.length (g := fun _ => 0) (fun i _ => by rw [Nat.zero_testBit]; simp), sumF_zero]
theorem atS_bd {L : List J4} (hL : JobsOk L) (S : Nat) : 0 ≤ atS L S ∧ atS L S ≤ 160 := by
  have h : ∀ k, k ≤ L.length → 0 ≤ sumF (fun i => if S.testBit i = true then (L.getD i j0).t else 0) k ∧ sumF (fun i => if S.testBit i = true then (L.getD i j0).t else 0) k ≤ 20 * k := fun k => by
    induction k with
    | zero => intro _; simp [sumF]
    | succ k ih =>
      intro hk
      have h1 := ih (by omega)
      have h2 := hL.at_ k (by omega)
      rw [sumF]
      split <;> (push_cast; omega)
  have h1 := h L.length (Nat.le_refl _)
  have := hL.le
  unfold atS
  omega

/-! The fold. -/
theorem foldW_spec {L : List J4} {B : Nat → Nat} {S : Nat} {r : Nat → Option Int} : ∀ k, (foldW L B S r k = none ∧ ∀ i, i < k → mayB B S i = true → r (S ||| 2 ^ i) = none) ∨
    ∃ i x, i < k ∧ mayB B S i = true ∧ r (S ||| 2 ^ i) = some x ∧ foldW L B S r k = some (valJ L S i x) ∧ ∀ j x', j < k → mayB B S j = true → r (S ||| 2 ^ j) = some x' → valJ L S i x ≤ valJ L S j x'
  | 0 => .inl ⟨rfl, fun i hi => by omega⟩
  | k + 1 => by
      have ih := foldW_spec (L := L) (B := B) (S := S) (r := r) k
      unfold foldW
      by_cases hm : mayB B S k = true
      · rw [if_pos hm]
        cases hr : r (S ||| 2 ^ k) with
        | none =>
          simp only []
          rcases ih with ⟨h1, h2⟩ | ⟨i, x, h1, h2, h3, h4, h5⟩
          · exact .inl ⟨h1, fun i hi hmi => by
              by_cases e : i = k
              · subst e; exact hr
              · exact h2 i (by omega) hmi⟩
          · exact .inr ⟨i, x, by omega, h2, h3, h4, fun j x' hj hmj hrj => by
              by_cases e : j = k
              · subst e; rw [hr] at hrj; cases hrj
              · exact h5 j x' (by omega) hmj hrj⟩
        | some x0 =>
          simp only []
          rcases ih with ⟨h1, h2⟩ | ⟨i, x, h1, h2, h3, h4, h5⟩
          · rw [h1]
            exact .inr ⟨k, x0, by omega, hm, hr, rfl, fun j x' hj hmj hrj => by
              by_cases e : j = k
              · subst e; rw [hr] at hrj; injection hrj with e; subst e; exact Int.le_refl _
              · rw [h2 j (by omega) hmj] at hrj; cases hrj⟩
          · rw [h4]
            simp only []
            by_cases hlt : valJ L S k x0 < valJ L S i x
            · rw [if_pos hlt]
              exact .inr ⟨k, x0, by omega, hm, hr, rfl, fun j x' hj hmj hrj => by
                by_cases e : j = k
                · subst e; rw [hr] at hrj; injection hrj with e; subst e; exact Int.le_refl _
                · have := h5 j x' (by omega) hmj hrj; omega⟩
            · rw [if_neg hlt]
              exact .inr ⟨i, x, by omega, h2, h3, rfl, fun j x' hj hmj hrj => by
                by_cases e : j = k
                · subst e; rw [hr] at hrj; injection hrj with e; subst e; omega
                · exact h5 j x' (by omega) hmj hrj⟩
      · rw [if_neg hm]
        rcases ih with ⟨h1, h2⟩ | ⟨i, x, h1, h2, h3, h4, h5⟩
        · exact .inl ⟨h1, fun i hi hmi => by
            by_cases e : i = k
            · subst e; exact absurd hmi hm
            · exact h2 i (by omega) hmi⟩
        · exact .inr ⟨i, x, by omega, h2, h3, h4, fun j x' hj hmj hrj => by
            by_cases e : j = k
            · subst e; exact absurd hmj hm
            · exact h5 j x' (by omega) hmj hrj⟩
theorem worst_bd {L : List J4} (hL : JobsOk L) {B : Nat → Nat} : ∀ d S x, worstF L B d S = some x → -1000 ≤ x ∧ x ≤ 1000
  | 0, S, x, h => by unfold worstF at h; injection h with h; omega
  | d + 1, S, x, h => by
      unfold worstF at h
      rcases foldW_spec (L := L) (B := B) (S := S) (r := worstF L B d) L.length with ⟨h1, _⟩ | ⟨i, y, h1, h2, h3, h4, _⟩
      · rw [h1] at h; cases h
      · rw [h4] at h
        injection h with h
        have h5 := worst_bd hL d _ y h3
        have h6 := atS_bd hL S
        have h7 := hL.at_ i h1
        unfold valJ at h
        omega

/-! Any order that keeps the befores has no less; the greedy one has no more. -/
theorem low_worst {L : List J4} {B : Nat → Nat} : ∀ (r : List Nat) (S : Nat), okO L.length B S r → ∃ x, worstF L B r.length S = some x ∧ x ≤ lateOf L (atS L S) r
  | [], S, _ => ⟨-1000, rfl, Int.le_refl _⟩
  | i :: r, S, h => by
      obtain ⟨h1, h2, h3⟩ := h
      obtain ⟨x, h4, h5⟩ := low_worst r _ h3
      show ∃ y, foldW L B S (worstF L B r.length) L.length = some y ∧ _
      rcases foldW_spec (L := L) (B := B) (S := S) (r := worstF L B r.length) L.length with ⟨h6, h7⟩ | ⟨j, y, h6, h7, h8, h9, h10⟩
      · rw [h7 i h1 h2] at h4; cases h4
      · refine ⟨_, h9, ?_⟩
        have h11 := h10 i x h1 h2 h4
        rw [atS_or (may_bit h2) h1] at h5
        rw [lateOf]
        unfold valJ at h11 ⊢
        omega
theorem find_range {p : Nat → Bool} {n i : Nat} (hi : i < n) (hp : p i = true) (hno : ∀ j, j < i → p j = false) : (List.range n).find? p = some i := by
  rw [List.find?_eq_some_iff_getElem]
  refine ⟨hp, i, by simpa using hi, by simp, fun j hj => ?_⟩
  simp [hno j hj]
theorem next_iff {L : List J4} {B : Nat → Nat} {d S i : Nat} {a v : Int} : nextB L B d S a v i = true ↔ mayB B S i = true ∧ a + (L.getD i j0).t - (L.getD i j0).d ≤ v ∧ ∃ x, worstF L B d (S ||| 2 ^ i) = some x ∧ x ≤ v := by
  unfold nextB
  cases h : worstF L B d (S ||| 2 ^ i) with
  | none => simp
  | some x => simp [and_assoc]
theorem gr_step {L : List J4} {B : Nat → Nat} {d S : Nat} {v x : Int} (h : worstF L B (d + 1) S = some x) (hv : x ≤ v) : ∃ i y, i < L.length ∧ nextB L B d S (atS L S) v i = true ∧ (∀ j, j < i → nextB L B d S (atS L S) v j = false) ∧
    worstF L B d (S ||| 2 ^ i) = some y ∧ y ≤ v ∧ gr L B (d + 1) S (atS L S) v = i :: gr L B d (S ||| 2 ^ i) (atS L (S ||| 2 ^ i)) v := by
  have hex : ∃ i, i < L.length ∧ nextB L B d S (atS L S) v i = true := by
    rw [worstF] at h
    rcases foldW_spec (L := L) (B := B) (S := S) (r := worstF L B d) L.length with ⟨h1, _⟩ | ⟨i, y, h1, h2, h3, h4, _⟩
    · rw [h1] at h; cases h
    · rw [h4] at h
      injection h with h
      refine ⟨i, h1, next_iff.2 ⟨h2, ?_, y, h3, ?_⟩⟩
      · unfold valJ at h; omega
      · unfold valJ at h; omega
  obtain ⟨i0, hi0, hp0⟩ := hex
  cases hf : (List.range L.length).find? (nextB L B d S (atS L S) v) with
  | none =>
    rw [List.find?_eq_none] at hf
    exact absurd hp0 (hf i0 (List.mem_range.2 hi0))
  | some i =>
    obtain ⟨h1, h2, h3⟩ := find_range_some.1 hf
    obtain ⟨h4, h5, y, h6, h7⟩ := next_iff.1 h2
    refine ⟨i, y, h1, h2, h3, h6, h7, ?_⟩
    rw [gr, hf, atS_or (may_bit h4) h1]
theorem gr_ok {L : List J4} {B : Nat → Nat} {v : Int} (hv0 : -1000 ≤ v) : ∀ d S x, worstF L B d S = some x → x ≤ v → okO L.length B S (gr L B d S (atS L S) v) ∧ (gr L B d S (atS L S) v).length = d ∧ lateOf L (atS L S) (gr L B d S (atS L S) v) ≤ v
  | 0, S, x, _, _ => ⟨trivial, rfl, hv0⟩
  | d + 1, S, x, h, hx => by
      obtain ⟨i, y, h1, h2, _, h3, h4, h5⟩ := gr_step h hx
      obtain ⟨k1, k2, k3⟩ := gr_ok hv0 d _ y h3 h4
      obtain ⟨m1, m2, _⟩ := next_iff.1 h2
      rw [h5]
      refine ⟨⟨h1, m1, k1⟩, by rw [List.length_cons, k2], ?_⟩
      rw [lateOf, ← atS_or (may_bit m1) h1]
      have := atS_or (may_bit m1) h1
      omega

/-! The reference: all orders, one behind the other. -/
def maskL (b : List Nat) : Nat := b.foldl (fun m i => m ||| 2 ^ i) 0
theorem maskL_snoc (b : List Nat) (k : Nat) : maskL (b ++ [k]) = maskL b ||| 2 ^ k := by simp [maskL]
def rlF (f : List Nat → List Nat × Int → List Nat × Int) (B : Nat → Nat) (b : List Nat) (acc : List Nat × Int) : Nat → List Nat × Int
  | 0 => acc
  | k + 1 => if mayB B (maskL b) k = true then f (b ++ [k]) (rlF f B b acc k) else rlF f B b acc k
def rl (L : List J4) (B : Nat → Nat) : Nat → List Nat → List Nat × Int → List Nat × Int
  | 0, b, acc => if lateOf L 0 b < acc.2 then (b, lateOf L 0 b) else acc
  | d + 1, b, acc => rlF (rl L B d) B b acc L.length
def timeL (L : List J4) : List Nat → Int
  | [] => 0
  | i :: r => (L.getD i j0).t + timeL L r
theorem late_snoc (L : List J4) (k : Nat) : ∀ (b : List Nat) (a : Int), lateOf L a (b ++ [k]) = max (lateOf L a b) (a + timeL L b + (L.getD k j0).t - (L.getD k j0).d)
  | [], a => by show max _ (-1000) = max (-1000) (a + 0 + _ - _); rw [Int.add_zero]; omega
  | i :: r, a => by
      show max _ (lateOf L _ (r ++ [k])) = max (max _ _) (a + (_ + timeL L r) + _ - _)
      rw [late_snoc L k r]
      omega
theorem time_snoc (L : List J4) (k : Nat) : ∀ b : List Nat, timeL L (b ++ [k]) = timeL L b + (L.getD k j0).t
  | [] => by show _ + (0 : Int) = 0 + _; omega
  | i :: r => by show _ + timeL L (r ++ [k]) = _ + timeL L r + _; rw [time_snoc L k r]; omega
/-- What is begun: different jobs; their set and time. -/
structure Begun (L : List J4) (B : Nat → Nat) (b : List Nat) : Prop where
  ok : okO L.length B 0 b
  lt : maskL b < 2 ^ L.length
  card : cardF L.length (maskL b) = b.length
  time : atS L (maskL b) = timeL L b
theorem okO_snoc {n : Nat} {B : Nat → Nat} {k : Nat} : ∀ (b : List Nat) (S : Nat), okO n B S b → k < n → mayB B (b.foldl (fun m i => m ||| 2 ^ i) S) k = true → okO n B S (b ++ [k])
  | [], S, _, hk, hm => ⟨hk, hm, trivial⟩
  | i :: r, S, ⟨h1, h2, h3⟩, hk, hm => ⟨h1, h2, okO_snoc r _ h3 hk hm⟩
theorem cardF_zero' : ∀ n, cardF n 0 = 0
  | 0 => rfl
  | n + 1 => by rw [cardF, cardF_zero' n, Nat.zero_testBit]; simp
theorem Begun.nil_ (L : List J4) (B : Nat → Nat) : Begun L B [] := ⟨trivial, Nat.two_pow_pos _, cardF_zero' _, atS_zero L⟩
theorem Begun.snoc {L : List J4} {B : Nat → Nat} {b : List Nat} (h : Begun L B b) {k : Nat} (hk : k < L.length) (hm : mayB B (maskL b) k = true) : Begun L B (b ++ [k]) where
  ok := okO_snoc b 0 h.ok hk hm
  lt := by rw [maskL_snoc]; exact or_lt h.lt hk
  card := by rw [maskL_snoc, card_or (may_bit hm), if_pos hk, h.card, List.length_append]; rfl
  time := by rw [maskL_snoc, atS_or (may_bit hm) hk, h.time, time_snoc]
theorem rl_eq {L : List J4} {B : Nat → Nat} : ∀ (d : Nat) (b : List Nat) (acc : List Nat × Int), Begun L B b → b.length + d = L.length →
    rl L B d b acc = match worstF L B d (maskL b) with
      | none => acc
      | some r => if max (lateOf L 0 b) r < acc.2 then (b ++ gr L B d (maskL b) (atS L (maskL b)) (max (lateOf L 0 b) r), max (lateOf L 0 b) r) else acc
  | 0, b, acc, hb, hl => by
      have hge : ∀ (b : List Nat) (a : Int), -1000 ≤ lateOf L a b := fun b => by
        induction b with
        | nil => intro a; exact Int.le_refl _
        | cons i r ih => intro a; have := ih (a + (L.getD i j0).t); rw [lateOf]; omega
      have h1 := hge b 0
      rw [worstF, rl]
      simp only []
      rw [show max (lateOf L 0 b) (-1000) = lateOf L 0 b by omega, gr, List.append_nil]
  | d + 1, b, acc, hb, hl => by
      obtain ⟨S, hS⟩ : ∃ S, S = maskL b := ⟨_, rfl⟩
      obtain ⟨c, hc⟩ : ∃ c, c = lateOf L 0 b := ⟨_, rfl⟩
      have hval : ∀ i x, max (lateOf L 0 (b ++ [i])) x = max c (valJ L S i x) := fun i x => by
        rw [late_snoc, ← hc, ← hb.time, ← hS]
        unfold valJ
        omega
      -- after the first k
      have key : ∀ k, k ≤ L.length → (rlF (rl L B d) B b acc k = acc ∧ ∀ i x, i < k → mayB B S i = true → worstF L B d (S ||| 2 ^ i) = some x → acc.2 ≤ max c (valJ L S i x)) ∨
          ∃ i x, i < k ∧ mayB B S i = true ∧ worstF L B d (S ||| 2 ^ i) = some x ∧ max c (valJ L S i x) < acc.2 ∧ rlF (rl L B d) B b acc k = (b ++ i :: gr L B d (S ||| 2 ^ i) (atS L (S ||| 2 ^ i)) (max c (valJ L S i x)), max c (valJ L S i x)) ∧
            ∀ j x', j < k → mayB B S j = true → worstF L B d (S ||| 2 ^ j) = some x' → max c (valJ L S i x) ≤ max c (valJ L S j x') ∧ (j < i → max c (valJ L S i x) < max c (valJ L S j x')) := fun k => by
        induction k with
        | zero => intro _; exact .inl ⟨rfl, fun i x hi => by omega⟩
        | succ k ih =>
          intro hk
          rw [rlF, ← hS]
          by_cases hm : mayB B S k = true
          · rw [if_pos hm]
            have hbk := hb.snoc (k := k) (by omega) (by rw [← hS]; exact hm)
            have hrec := rl_eq d (b ++ [k]) (rlF (rl L B d) B b acc k) hbk (by rw [List.length_append, List.length_singleton]; omega)
            rw [maskL_snoc, ← hS] at hrec
            rw [hrec]
            cases hw : worstF L B d (S ||| 2 ^ k) with
            | none =>
              simp only []
              rcases ih (by omega) with ⟨h1, h2⟩ | ⟨i, x, h1, h2, h3, h4, h5, h6⟩
              · exact .inl ⟨h1, fun i x hi hmi hwi => by
                  by_cases e : i = k
                  · subst e; rw [hw] at hwi; cases hwi
                  · exact h2 i x (by omega) hmi hwi⟩
              · exact .inr ⟨i, x, by omega, h2, h3, h4, h5, fun j x' hj hmj hwj => by
                  by_cases e : j = k
                  · subst e; rw [hw] at hwj; cases hwj
                  · exact h6 j x' (by omega) hmj hwj⟩
            | some y =>
              simp only [hval]
              rcases ih (by omega) with ⟨h1, h2⟩ | ⟨i, x, h1, h2, h3, h4, h5, h6⟩
              · rw [h1]
                by_cases hlt : max c (valJ L S k y) < acc.2
                · rw [if_pos hlt]
                  refine .inr ⟨k, y, by omega, hm, hw, hlt, by rw [List.append_assoc]; rfl, fun j x' hj hmj hwj => ?_⟩
                  by_cases e : j = k
                  · subst e; rw [hw] at hwj; injection hwj with e; subst e; exact ⟨Int.le_refl _, fun h => by omega⟩
                  · have := h2 j x' (by omega) hmj hwj
                    exact ⟨by omega, fun _ => by omega⟩
                · rw [if_neg hlt]
                  exact .inl ⟨rfl, fun i x hi hmi hwi => by
                    by_cases e : i = k
                    · subst e; rw [hw] at hwi; injection hwi with e; subst e; omega
                    · exact h2 i x (by omega) hmi hwi⟩
              · rw [h5]
                simp only []
                by_cases hlt : max c (valJ L S k y) < max c (valJ L S i x)
                · rw [if_pos hlt]
                  refine .inr ⟨k, y, by omega, hm, hw, by omega, by rw [List.append_assoc]; rfl, fun j x' hj hmj hwj => ?_⟩
                  by_cases e : j = k
                  · subst e; rw [hw] at hwj; injection hwj with e; subst e; exact ⟨Int.le_refl _, fun h => by omega⟩
                  · have := (h6 j x' (by omega) hmj hwj).1
                    exact ⟨by omega, fun _ => by omega⟩
                · rw [if_neg hlt]
                  refine .inr ⟨i, x, by omega, h2, h3, h4, rfl, fun j x' hj hmj hwj => ?_⟩
                  by_cases e : j = k
                  · subst e; rw [hw] at hwj; injection hwj with e; subst e; exact ⟨by omega, fun h => by omega⟩
                  · exact h6 j x' (by omega) hmj hwj
          · rw [if_neg hm]
            rcases ih (by omega) with ⟨h1, h2⟩ | ⟨i, x, h1, h2, h3, h4, h5, h6⟩
            · exact .inl ⟨h1, fun i x hi hmi hwi => by
                by_cases e : i = k
                · subst e; exact absurd hmi hm
                · exact h2 i x (by omega) hmi hwi⟩
            · exact .inr ⟨i, x, by omega, h2, h3, h4, h5, fun j x' hj hmj hwj => by
                by_cases e : j = k
                · subst e; exact absurd hmj hm
                · exact h6 j x' (by omega) hmj hwj⟩
      rw [rl]
      cases hw : worstF L B (d + 1) (maskL b) with
      | none =>
        simp only []
        rw [← hS, worstF] at hw
        rcases foldW_spec (L := L) (B := B) (S := S) (r := worstF L B d) L.length with ⟨h1, h2⟩ | ⟨i, x, h1, h2, h3, h4, h5⟩
        · rcases key L.length (Nat.le_refl _) with ⟨k1, _⟩ | ⟨i, x, k1, k2, k3, _⟩
          · exact k1
          · rw [h2 i k1 k2] at k3; cases k3
        · rw [h4] at hw; cases hw
      | some r =>
        simp only []
        have hw2 := hw
        rw [← hS] at hw2
        have hw1 := hw2
        rw [worstF] at hw1
        rcases foldW_spec (L := L) (B := B) (S := S) (r := worstF L B d) L.length with ⟨h1, h2⟩ | ⟨i, x, h1, h2, h3, h4, h5⟩
        · rw [h1] at hw1; cases hw1
        · rw [h4] at hw1
          injection hw1 with hr
          rw [← hc, ← hS]
          rcases key L.length (Nat.le_refl _) with ⟨k1, k2⟩ | ⟨i', x', k1, k2, k3, k4, k5, k6⟩
          · have := k2 i x h1 h2 h3
            rw [if_neg (by omega)]; exact k1
          · have h6 := (k6 i x h1 h2 h3).1
            have h7 := h5 i' x' k1 k2 k3
            have hm : max c (valJ L S i' x') = max c r := by omega
            rw [if_pos (by omega), k5, hm]
            obtain ⟨i2, y2, g1, g2, g3, g4, g5, g6⟩ := gr_step (v := max c r) hw2 (by omega)
            obtain ⟨n1, n2, y3, n3, n4⟩ := next_iff.1 g2
            rw [g4] at n3; injection n3 with n3; subst n3
            have hi : i2 = i' := by
              rcases Nat.lt_trichotomy i2 i' with e | e | e
              · have := (k6 i2 y2 g1 n1 g4).2 e
                unfold valJ at this hm
                omega
              · exact e
              · exfalso
                have h8 := g3 i' e
                have h9 : nextB L B d S (atS L S) (max c r) i' = true := next_iff.2 ⟨k2, by unfold valJ at hm; omega, x', k3, by unfold valJ at hm; omega⟩
                rw [h8] at h9; cases h9
            subst hi
            rw [g6]
end Go.Proofs.Ytiadineakhcclaa

/-
  dates: plan, by Due.
-/
namespace Go.Proofs.Ytiadineakhcclaa
open Go.RowKit
set_option linter.unusedVariables false
set_option linter.unusedSimpArgs false

set_option maxRecDepth 100000 in
set_option maxHeartbeats 3200000 in
theorem planD_any (A : Option Addr) (n c : Nat) (L : List J4) (w : World) (hn : L.length = n) (hL : JobsOk L) (hA : JobsA w w.heap.size A L) :
    Calls Try.prog 55 #[.slice A n c, .iface 88 (.slice A n c)] w fun e w' => ∃ X m c', e = .returned (.slice X m c') ∧ (planN false L).length = m ∧ m ≤ c' ∧ PcsA w' w'.heap.size X (planN false L) ∧ Below w.heap.size w w' := by
  have hme : ∀ w, (method 245 88 (.slice A n c) ((Try.t91.methods[0]?.map (·.name)).getD "")).run Try.prog w = .ok (109, (.slice A n c)) w := fun _ => by kernel_rfl
  simp only [Try.t91, List.getElem?_toArray, List.getElem?_cons_zero, Option.map_some, Option.getD_some] at hme
  have h8 : n ≤ 8 := by rw [← hn]; exact hL.le
  have h1 : 1 ≤ n := by rw [← hn]; exact hL.pos
  have HN := hide hn
  have HL := hide hL
  have HA := hide hA
  have hmk := run_make_row' (P := Try.prog) 115 3 (.int .i64 0) 8 Try.underlying115 info_int rfl .i64 .i64 n (by omega) (by omega)
  obtain ⟨w1, hw1⟩ : ∃ w1, w1 = w.alloc (.cells (madeCells #[.int .i64 0] n) 3) := ⟨_, rfl⟩
  have HR1 : Hid (w1.rowIs w.heap.size 3 n (fun a => .int .i64 (if a < 0 then (timesOf L).getD a 0 else 0))) := by subst hw1; exact World.rowIs_made w (.int .i64 0) n _
  have HB1 : Hid (Below w.heap.size w w1) := by subst hw1; exact (Below.refl _ _).alloc (Nat.le_refl _) _
  clear hn hL hA
  go_enter Try.func55, Try.ntmps55
  go_wp2
  rw [← hw1]
  clear hw1 hmk
  go_loopw [19] (fun v wr => ∃ k : Nat, k ≤ n ∧ v = .int .i64 k ∧ Hid (wr.rowIs w.heap.size 3 n (fun a => .int .i64 (if a < k then (timesOf L).getD a 0 else 0))) ∧ Below w.heap.size w wr) (fun v _ => n - (intOf v).toNat)
  case atStart => exact ⟨0, Nat.zero_le _, rfl, HR1, HB1.out⟩
  case round =>
    obtain ⟨k, hk, rfl, HR, hb⟩ := hrel
    have HB := hide hb
    by_cases hlt : k < n
    · obtain ⟨bj, oj, t, r, d, u, rfl, hbj, hc0, hc1, hc2, hc3, hx⟩ := (HA.out.below hb).at_ (k := k) (by rw [HN.out]; exact hlt)
      have hkn : (k : Int) < (n : Int) := by omega
      have hlr := HR.out.lt
      have hfz := HR.out.frozen k
      have hcr := HR.out.cell hlt
      have HX := hide hx.out
      clear hx hb
      go_wp2
      go_roundw
      case rel =>
        refine ⟨k + 1, by omega, by go_num, hide (((HR.out.set k _).alloc _).congr fun a ha => ?_), (HB.out.setCell (Nat.le_refl _) _).alloc (by simp; exact HB.out.size) _⟩
        show (if a = k then Value.int .i64 t else Value.int .i64 (if a < k then (timesOf L).getD a 0 else 0)) = Value.int .i64 (if a < k + 1 then (timesOf L).getD a 0 else 0)
        by_cases e : a = k
        · subst e; rw [if_pos rfl, if_pos (by omega), timesOf_getD, HX.out]
        · rw [if_neg e]
          by_cases e2 : a < k
          · rw [if_pos e2, if_pos (by omega)]
          · rw [if_neg e2, if_neg (by omega)]
      case measure => simp [intOf] <;> omega
    · obtain rfl : n = k := by omega
      obtain ⟨wq, rfl⟩ : ∃ wq : World, wq = wr := ⟨_, rfl⟩
      have HR2 : Hid (wq.rowIs w.heap.size 3 n (fun a => .int .i64 ((runP false L 0).1.getD a 0))) := HR.out.congr fun a ha => by rw [if_pos ha]; rfl
      clear HR hb
      go_wp2
      go_loopw [5, 9] (fun v5 v9 w2 => ∃ (k : Nat) (X : Option Addr) (m c' : Nat), k ≤ 300 ∧ v9 = .int .i64 k ∧ v5 = .slice X m c' ∧ m ≤ c' ∧ Hid ((runP false L k).2.length = m) ∧ Hid (w2.rowIs w.heap.size 3 n (fun a => .int .i64 ((runP false L k).1.getD a 0))) ∧
          Hid (w2.ownsRow (w.heap.size + 1) 44 3 (.slice X m c') m (pcells (runP false L k).2)) ∧ Below w.heap.size w w2) (fun _ v9 _ => 300 - (intOf v9).toNat)
      case atStart => exact ⟨0, none, 0, 0, by omega, rfl, rfl, Nat.le_refl _, hide rfl, HR2, hide (World.ownsRow_nil _ _ _ _), HB.out⟩
      case round =>
        obtain ⟨k, X, m, c', hk, rfl, rfl, hmc, HM, HT, HO, hb2⟩ := hrel
        obtain ⟨w2, rfl⟩ : ∃ w2 : World, w2 = wr := ⟨_, rfl⟩
        have HB2 := hide hb2
        have HOK := hide (runP_ok false HL.out k)
        have HZE := hide (fun h => runP_end (sh := false) (k := k) HL.out h)
        have HZ3 := hide (fun h => runP_300 (sh := false) (k := k) HL.out h)
        obtain ⟨s, hs⟩ : ∃ s, runP false L k = s := ⟨_, rfl⟩
        have HSN : Hid (runP false L (k + 1) = stepP false L k s) := by rw [← hs]; rfl
        rw [hs] at HM HT HO HOK HZE HZ3
        clear hs
        obtain ⟨t, out⟩ := s
        have HTL : Hid (t.length = n) := by rw [← HN.out]; exact HOK.out.len
        have HIT : Hid (IntsA w2 w2.heap.size (some ⟨w.heap.size, 0, none⟩) t) := ints_of_row HT.out HTL.out.symm (fun a ha => rfl)
        have HMX := hide (maxL_any (some ⟨w.heap.size, 0, none⟩) n n w2.heap.size t w2 HTL.out h8 h1 HIT.out)
        have HMZ := hide (maxTo_z HTL.out h1)
        obtain ⟨mx, hmx⟩ : ∃ mx, maxTo t (n - 1) = mx := ⟨_, rfl⟩
        rw [hmx] at HMX HMZ
        clear hmx hb2
        by_cases hz : AllZ t
        · have hd : decide (0 < mx) = false := by rw [HMZ.out]; exact @decide_eq_false _ (Classical.propDecidable _) (fun h => h hz)
          have HE : Hid (out = planN false L) := HZE.out hz
          have HPO := hide (pcs_of_own HO.out)
          clear hz
          go_wp2_with (go_at_call 79; refine (HMX.out).mono ?_; rintro e w' ⟨rfl, rfl⟩)
          go_ret
          exact ⟨X, m, c', rfl, by rw [← HE.out]; exact HM.out, hmc, by rw [← HE.out]; exact HPO.out, HB2.out⟩
        · have hd : decide (0 < mx) = true := by rw [HMZ.out]; exact @decide_eq_true _ (Classical.propDecidable _) hz
          have hk3 : k < 300 := Nat.lt_of_not_le fun h => hz (HZ3.out h)
          have HF := hide (fun (i g : Nat) (hi : i < n) (hg : g < n) (w9 : World) (hb9 : Below w2.heap.size w2 w9) => jfirst_any A (some ⟨w.heap.size, 0, none⟩) n c n n L i g w9 HN.out h8 hi hg (((HA.out.below HB2.out).more HB2.out.size).next hb9))
          clear hz
          go_wp2_with (go_at_call 79; refine (HMX.out).mono ?_; rintro e w' ⟨rfl, rfl⟩)
          go_loopw [10, 37] (fun v10 v37 w3 => ∃ (i : Nat) (z : Int), i ≤ n ∧ v37 = .int .i64 i ∧ v10 = .int .i64 z ∧ -1 ≤ z ∧ z < i ∧ Hid (z = pkTo false L t k i) ∧ Below w2.heap.size w2 w3) (fun _ v37 _ => n - (intOf v37).toNat)
          case atStart => exact ⟨0, -1, Nat.zero_le _, rfl, rfl, by omega, by omega, hide rfl, Below.refl _ _⟩
          case round =>
            obtain ⟨i, z, hi, rfl, rfl, hz0, hz1, HZ, hb3⟩ := hrel
            obtain ⟨w3, rfl⟩ : ∃ w3 : World, w3 = wr := ⟨_, rfl⟩
            have HB3 := hide hb3
            have HW3 := hide (HB2.out.trans (hb3.mono HB2.out.size))
            by_cases hlt : i < n
            · obtain ⟨bj, oj, t', r, d, u, rfl, hbj, hc0, hc1, hc2, hc3, hx⟩ := (HA.out.below HW3.out).at_ (k := i) (by rw [HN.out]; exact hlt)
              have hin : (i : Int) < (n : Int) := by omega
              obtain ⟨ti, hti⟩ : ∃ ti, t.getD i 0 = ti := ⟨_, rfl⟩
              have hci : w3.cell? ⟨w.heap.size, i, none⟩ = some (.int .i64 ti) := by rw [← hti]; exact (hb3.cell (p := ⟨w.heap.size, i, none⟩) HT.out.lt).trans (HT.out.cell hlt)
              have hs3 : w.heap.size < w3.heap.size := Nat.lt_of_lt_of_le HT.out.lt hb3.size
              have HX := hide hx.out
              have HTI := hide hti
              clear hx hti hb3
              have HBW : Hid (∀ o, Below w2.heap.size w2 (w3.alloc o)) := fun o => HB3.out.alloc HB3.out.size _
              by_cases hr : r ≤ (k : Int)
              · by_cases ht0 : 0 < ti
                · have d1 : decide (r ≤ (k : Int)) = true := decide_eq_true hr
                  have d2 : decide (0 < ti) = true := decide_eq_true ht0
                  by_cases hz : z < 0
                  · have d3 : decide (z < 0) = true := decide_eq_true hz
                    have HNX : Hid ((i : Int) = pkTo false L t k (i + 1)) := by rw [pkTo, if_pos ⟨by rw [HX.out]; exact hr, by rw [HTI.out]; exact ht0, .inl (by rw [← HZ.out]; exact hz)⟩]; exact hide rfl
                    go_wp2
                    go_roundw
                    case rel => exact ⟨i + 1, (i : Int), by omega, by go_num, rfl, by omega, by omega, HNX, HBW.out _⟩
                    case measure => simp [intOf] <;> omega
                  · have d3 : decide (z < 0) = false := decide_eq_false hz
                    obtain ⟨g, rfl⟩ : ∃ g : Nat, z = g := ⟨z.toNat, by omega⟩
                    have HFF := hide (fun w9 hb9 => HF.out i g hlt (by omega) w9 hb9)
                    obtain ⟨q, hq⟩ : ∃ q, q = decide ((L.getD i j0).d < (L.getD g j0).d) := ⟨_, rfl⟩
                    rw [← hq] at HFF
                    have HQ : Hid (q = true ↔ keyP false L t i < keyP false L t g) := by rw [hq, decide_eq_true_eq]; exact Iff.rfl
                    clear hq
                    cases q
                    · have HNX : Hid ((g : Int) = pkTo false L t k (i + 1)) := by
                        rw [pkTo, ← HZ.out, if_neg (fun h => by rcases h.2.2 with h | h; exact hz h; exact absurd (HQ.out.2 h) (by simp))]; exact hide rfl
                      go_wp2_with (go_at_call 109; refine (HFF.out _ (HBW.out _)).mono ?_; rintro e w4 ⟨rfl, hb4⟩; have HB4 := hide hb4; clear hb4)
                      go_roundw
                      case rel => exact ⟨i + 1, (g : Int), by omega, by go_num, rfl, by omega, by omega, HNX, (HBW.out _).trans (HB4.out.mono (HBW.out _).size)⟩
                      case measure => simp [intOf] <;> omega
                    · have HNX : Hid ((i : Int) = pkTo false L t k (i + 1)) := by
                        rw [pkTo, ← HZ.out, if_pos ⟨by rw [HX.out]; exact hr, by rw [HTI.out]; exact ht0, .inr (HQ.out.1 rfl)⟩]; exact hide rfl
                      go_wp2_with (go_at_call 109; refine (HFF.out _ (HBW.out _)).mono ?_; rintro e w4 ⟨rfl, hb4⟩; have HB4 := hide hb4; clear hb4)
                      go_roundw
                      case rel => exact ⟨i + 1, (i : Int), by omega, by go_num, rfl, by omega, by omega, HNX, (HBW.out _).trans (HB4.out.mono (HBW.out _).size)⟩
                      case measure => simp [intOf] <;> omega
                · have d1 : decide (r ≤ (k : Int)) = true := decide_eq_true hr
                  have d2 : decide (0 < ti) = false := decide_eq_false ht0
                  have HNX : Hid (z = pkTo false L t k (i + 1)) := by rw [pkTo, if_neg (fun h => ht0 (by rw [← HTI.out]; exact h.2.1))]; exact HZ.out
                  go_wp2
                  go_roundw
                  case rel => exact ⟨i + 1, z, by omega, by go_num, rfl, by omega, by omega, HNX, HBW.out _⟩
                  case measure => simp [intOf] <;> omega
              · have d1 : decide (r ≤ (k : Int)) = false := decide_eq_false hr
                have HNX : Hid (z = pkTo false L t k (i + 1)) := by rw [pkTo, if_neg (fun h => hr (by have := h.1; rw [HX.out] at this; exact this))]; exact HZ.out
                go_wp2
                go_roundw
                case rel => exact ⟨i + 1, z, by omega, by go_num, rfl, by omega, by omega, HNX, HBW.out _⟩
                case measure => simp [intOf] <;> omega
            · obtain rfl : n = i := by omega
              have HPK : Hid (z = pk false L t k) := by rw [pk, HN.out]; exact HZ.out
              by_cases hz : z < 0
              · have d3 : decide (z < 0) = true := decide_eq_true hz
                have HST : Hid (runP false L (k + 1) = (t, out)) := by rw [HSN.out, stepP]; simp only []; rw [← HPK.out, if_pos hz]; exact hide rfl
                have HR3 := hide (HT.out.of_block (HB3.out.block _ HT.out.lt))
                have HO3 := hide (own_keepS HO.out (fun g hg => HB3.out.block g (own_ltS HO.out g hg).2))
                clear hb3
                go_wp2
                go_roundw
                case rel => exact ⟨k + 1, X, m, c', by omega, by go_num, rfl, hmc, by rw [HST.out]; exact HM, by rw [HST.out]; exact HR3, by rw [HST.out]; exact HO3, HW3.out⟩
                case measure => simp [intOf] <;> omega
              · have d3 : decide (z < 0) = false := decide_eq_false hz
                obtain ⟨g, rfl⟩ : ∃ g : Nat, z = g := ⟨z.toNat, by omega⟩
                have hgn : g < n := by omega
                have hgi : (g : Int) < (n : Int) := by omega
                have HST : Hid (runP false L (k + 1) = (t.set g (t.getD g 0 - 1), addP out g k)) := by rw [HSN.out, stepP]; simp only []; rw [← HPK.out, if_neg hz, Int.toNat_natCast]; exact hide rfl
                have HR3 := hide (HT.out.of_block (HB3.out.block _ HT.out.lt))
                have HO3 := hide (own_keepS HO.out (fun g hg => HB3.out.block g (own_ltS HO.out g hg).2))
                obtain ⟨tg, htg⟩ : ∃ tg, t.getD g 0 = tg := ⟨_, rfl⟩
                have hcg : w3.cell? ⟨w.heap.size, g, none⟩ = some (.int .i64 tg) := by rw [← htg]; exact HR3.out.cell hgn
                have hfg : w3.frozen? ⟨w.heap.size, g, none⟩ = false := HR3.out.frozen g
                have hs3 : w.heap.size < w3.heap.size := HR3.out.lt
                have HR4 := hide (HR3.out.set g (.int .i64 (tg - 1)))
                have HO4 := hide (own_farS (b' := w.heap.size) (i := g) HO3.out (fun x hx h => by have := (own_ltS HO3.out x hx).1; omega) (.int .i64 (tg - 1)))
                have htb : 0 ≤ tg ∧ tg ≤ 20 := by
                  have h1 := HOK.out.bd g (by rw [HN.out]; exact hgn)
                  have h2 := HL.out.at_ g (by rw [HN.out]; exact hgn)
                  simp only [] at h1
                  omega
                obtain ⟨htb0, htb1⟩ := htb
                have HTG := hide htg
                have HB4 : Hid (Below w.heap.size w (w3.setCell ⟨w.heap.size, g, none⟩ (.int .i64 (tg - 1)))) := HW3.out.setCell (Nat.le_refl _) _
                have HR5 : Hid ((w3.setCell ⟨w.heap.size, g, none⟩ (.int .i64 (tg - 1))).rowIs w.heap.size 3 n (fun a => .int .i64 ((t.set g (t.getD g 0 - 1)).getD a 0))) := HR4.out.congr fun a ha => by
                  rw [getD_set_i _ _ _ _ _ (by rw [HTL.out]; exact hgn), HTG.out]
                  by_cases e : a = g
                  · rw [if_pos e, if_pos e]
                  · rw [if_neg e, if_neg e]
                have hmk : m ≤ 300 := by have := HOK.out.num; have := HM.out; simp only [] at *; omega
                have HSZ4 : Hid (w.heap.size + 1 ≤ (w3.setCell ⟨w.heap.size, g, none⟩ (.int .i64 (tg - 1))).heap.size) := HR5.out.lt
                have hone : ∀ u ∈ [Value.int .i64 (g : Nat), .int .i64 (k : Nat), .int .i64 ((k : Int) + 1)], u.oneCell' = true := by intro u hu; simp at hu; rcases hu with rfl | rfl | rfl <;> rfl
                clear htg hb3 HR4
                by_cases hm0 : m = 0
                · subst hm0
                  have HAD : Hid (addP out g k = out ++ [⟨g, k, k + 1⟩]) := by rw [addP, if_neg (fun h => by have := HM.out; omega)]; exact hide rfl
                  go_wp2_with (at_builtin; refine wpList_appS (w0 := w3.setCell ⟨w.heap.size, g, none⟩ (.int .i64 (tg - 1))) _ _ 23 44 (.agg #[.int .i64 0, .int .i64 0, .int .i64 0]) 3 24 rfl rfl Try.underlying23 info_piece rfl (by decide) (w.heap.size + 1) (.slice X 0 c') 0 (pcells out) [.int .i64 (g : Nat), .int .i64 (k : Nat), .int .i64 ((k : Int) + 1)] rfl rfl (by simp [Act.eval]) rfl ⟨_, rfl⟩ HO4.out hone (by omega) (by omega) HSZ4.out ?_; intro ga cg w7 hown1 hd1 hd2 hg1 hgl2 hgrow; have HOW7 := hide hown1; have HG := hide hgrow; clear hown1 hgrow)
                  go_roundw
                  case rel =>
                    refine ⟨k + 1, some ⟨ga, 0, none⟩, 0 + 1, cg, by omega, by go_num, rfl, hd1, ?_, ?_, ?_, HB4.out.grown HG.out HB4.out.size (fun x hx => by have := (own_ltS HO4.out x hx).1; omega)⟩
                    · rw [HST.out, HAD.out]; exact hide (by rw [List.length_append, HM.out]; rfl)
                    · rw [HST.out]; exact hide (HR5.out.of_block (HG.out.block _ HR5.out.lt (fun e => by have := (own_ltS HO4.out _ e.symm).1; omega)))
                    · rw [HST.out, HAD.out, pcells_snoc]; exact HOW7
                  case measure => simp [intOf] <;> omega
                · obtain ⟨q, rfl⟩ : ∃ q, m = q + 1 := ⟨m - 1, by omega⟩
                  obtain ⟨g2, cc, hX, hg2, hcc, hcm, hg2l⟩ := own_formS HO3.out (by omega)
                  injection hX with hX1 _ hX2
                  subst hX1; subst hX2
                  have hql : q < out.length := by rw [HM.out]; omega
                  obtain ⟨jo, fo, to, hp⟩ : ∃ jo fo to, out.getD q p0 = ⟨jo, fo, to⟩ := ⟨_, _, _, rfl⟩
                  have hca := pcells_at out q hql
                  rw [hp] at hca
                  have y0 := own_cell HO4.out hca.1
                  have y2 := own_cell HO4.out hca.2.2
                  have f2 := own_free HO4.out (q * 3 + 2)
                  have HPQ := hide hp
                  have HS4 := hide (own_set HO4.out (i := q * 3 + 2) (by omega) (.int .i64 (to + 1)))
                  have hto : 0 ≤ to ∧ to ≤ 300 := by have h := HOK.out.pc q hql; simp only [] at h; rw [hp] at h; simp only [] at h; omega
                  obtain ⟨hto0, hto1⟩ := hto
                  have hgne : g2 ≠ w.heap.size := by omega
                  have hqi : ((q : Int) + 1) - 1 = q := by omega
                  have hql2 : (q : Int) < (q : Int) + 1 := by omega
                  clear hp hca hql
                  by_cases hjo : jo = (g : Int)
                  · by_cases hto2 : to = (k : Int)
                    · have e1 : (jo == (g : Int)) = true := by simp [hjo]
                      have e2 : (to == (k : Int)) = true := by simp [hto2]
                      have HAD : Hid (addP out g k = out.set q ⟨jo, fo, to + 1⟩) := by
                        rw [addP, HM.out, show q + 1 - 1 = q by omega, HPQ.out, if_pos ⟨by omega, hjo, hto2⟩, hto2]; exact hide rfl
                      clear hjo hto2
                      go_wp2
                      go_roundw
                      case rel =>
                        refine ⟨k + 1, some ⟨g2, 0, none⟩, q + 1, _, by omega, by go_num, rfl, hmc, ?_, ?_, ?_, HB4.out.setCell (show w.heap.size ≤ g2 by omega) _⟩
                        · rw [HST.out, HAD.out]; exact hide (by rw [List.length_set]; exact HM.out)
                        · rw [HST.out]; exact hide (HR5.out.setOther (fun e => hgne e.symm) _)
                        · rw [HST.out, HAD.out]
                          have e9 := pcells_set2 out q (to + 1) (by rw [HM.out]; omega)
                          rw [HPQ.out] at e9
                          rw [← e9]; exact HS4
                      case measure => simp [intOf] <;> omega
                    · have e1 : (jo == (g : Int)) = true := by simp [hjo]
                      have e2 : (to == (k : Int)) = false := by simp [hto2]
                      have HAD : Hid (addP out g k = out ++ [⟨g, k, k + 1⟩]) := by rw [addP, HM.out, show q + 1 - 1 = q by omega, HPQ.out, if_neg (fun h => hto2 h.2.2)]; exact hide rfl
                      clear hjo hto2
                      go_wp2_with (at_builtin; refine wpList_appS (w0 := w3.setCell ⟨w.heap.size, g, none⟩ (.int .i64 (tg - 1))) _ _ 23 44 (.agg #[.int .i64 0, .int .i64 0, .int .i64 0]) 3 24 rfl rfl Try.underlying23 info_piece rfl (by decide) (w.heap.size + 1) (.slice (some ⟨g2, 0, none⟩) (q + 1) c') (q + 1) (pcells out) [.int .i64 (g : Nat), .int .i64 (k : Nat), .int .i64 ((k : Int) + 1)] rfl rfl (by simp [Act.eval]) rfl ⟨_, rfl⟩ HO4.out hone (by omega) (by omega) HSZ4.out ?_; intro ga cg w7 hown1 hd1 hd2 hg1 hgl2 hgrow; have HOW7 := hide hown1; have HG := hide hgrow; clear hown1 hgrow)
                      go_roundw
                      case rel =>
                        refine ⟨k + 1, some ⟨ga, 0, none⟩, (q + 1) + 1, cg, by omega, by go_num, rfl, hd1, ?_, ?_, ?_, HB4.out.grown HG.out HB4.out.size (fun x hx => by have := (own_ltS HO4.out x hx).1; omega)⟩
                        · rw [HST.out, HAD.out]; exact hide (by rw [List.length_append, HM.out]; rfl)
                        · rw [HST.out]; exact hide (HR5.out.of_block (HG.out.block _ HR5.out.lt (fun e => by have := (own_ltS HO4.out _ e.symm).1; omega)))
                        · rw [HST.out, HAD.out, pcells_snoc]; exact HOW7
                      case measure => simp [intOf] <;> omega
                  · have e1 : (jo == (g : Int)) = false := by simp [hjo]
                    have HAD : Hid (addP out g k = out ++ [⟨g, k, k + 1⟩]) := by rw [addP, HM.out, show q + 1 - 1 = q by omega, HPQ.out, if_neg (fun h => hjo h.2.1)]; exact hide rfl
                    clear hjo
                    go_wp2_with (at_builtin; refine wpList_appS (w0 := w3.setCell ⟨w.heap.size, g, none⟩ (.int .i64 (tg - 1))) _ _ 23 44 (.agg #[.int .i64 0, .int .i64 0, .int .i64 0]) 3 24 rfl rfl Try.underlying23 info_piece rfl (by decide) (w.heap.size + 1) (.slice (some ⟨g2, 0, none⟩) (q + 1) c') (q + 1) (pcells out) [.int .i64 (g : Nat), .int .i64 (k : Nat), .int .i64 ((k : Int) + 1)] rfl rfl (by simp [Act.eval]) rfl ⟨_, rfl⟩ HO4.out hone (by omega) (by omega) HSZ4.out ?_; intro ga cg w7 hown1 hd1 hd2 hg1 hgl2 hgrow; have HOW7 := hide hown1; have HG := hide hgrow; clear hown1 hgrow)
                    go_roundw
                    case rel =>
                      refine ⟨k + 1, some ⟨ga, 0, none⟩, (q + 1) + 1, cg, by omega, by go_num, rfl, hd1, ?_, ?_, ?_, HB4.out.grown HG.out HB4.out.size (fun x hx => by have := (own_ltS HO4.out x hx).1; omega)⟩
                      · rw [HST.out, HAD.out]; exact hide (by rw [List.length_append, HM.out]; rfl)
                      · rw [HST.out]; exact hide (HR5.out.of_block (HG.out.block _ HR5.out.lt (fun e => by have := (own_ltS HO4.out _ e.symm).1; omega)))
                      · rw [HST.out, HAD.out, pcells_snoc]; exact HOW7
                    case measure => simp [intOf] <;> omega
end Go.Proofs.Ytiadineakhcclaa

/-
  dates: plan, by the Time left.
-/
namespace Go.Proofs.Ytiadineakhcclaa
open Go.RowKit
set_option linter.unusedVariables false
set_option linter.unusedSimpArgs false

set_option maxRecDepth 100000 in
set_option maxHeartbeats 3200000 in
theorem planS_any (A : Option Addr) (n c : Nat) (L : List J4) (w : World) (hn : L.length = n) (hL : JobsOk L) (hA : JobsA w w.heap.size A L) :
    Calls Try.prog 55 #[.slice A n c, .iface 91 (.agg #[])] w fun e w' => ∃ X m c', e = .returned (.slice X m c') ∧ (planN true L).length = m ∧ m ≤ c' ∧ PcsA w' w'.heap.size X (planN true L) ∧ Below w.heap.size w w' := by
  have hme : ∀ w, (method 245 91 (.agg #[]) ((Try.t91.methods[0]?.map (·.name)).getD "")).run Try.prog w = .ok (110, (.agg #[])) w := fun _ => by kernel_rfl
  simp only [Try.t91, List.getElem?_toArray, List.getElem?_cons_zero, Option.map_some, Option.getD_some] at hme
  have h8 : n ≤ 8 := by rw [← hn]; exact hL.le
  have h1 : 1 ≤ n := by rw [← hn]; exact hL.pos
  have HN := hide hn
  have HL := hide hL
  have HA := hide hA
  have hmk := run_make_row' (P := Try.prog) 115 3 (.int .i64 0) 8 Try.underlying115 info_int rfl .i64 .i64 n (by omega) (by omega)
  obtain ⟨w1, hw1⟩ : ∃ w1, w1 = w.alloc (.cells (madeCells #[.int .i64 0] n) 3) := ⟨_, rfl⟩
  have HR1 : Hid (w1.rowIs w.heap.size 3 n (fun a => .int .i64 (if a < 0 then (timesOf L).getD a 0 else 0))) := by subst hw1; exact World.rowIs_made w (.int .i64 0) n _
  have HB1 : Hid (Below w.heap.size w w1) := by subst hw1; exact (Below.refl _ _).alloc (Nat.le_refl _) _
  clear hn hL hA
  go_enter Try.func55, Try.ntmps55
  go_wp2
  rw [← hw1]
  clear hw1 hmk
  go_loopw [19] (fun v wr => ∃ k : Nat, k ≤ n ∧ v = .int .i64 k ∧ Hid (wr.rowIs w.heap.size 3 n (fun a => .int .i64 (if a < k then (timesOf L).getD a 0 else 0))) ∧ Below w.heap.size w wr) (fun v _ => n - (intOf v).toNat)
  case atStart => exact ⟨0, Nat.zero_le _, rfl, HR1, HB1.out⟩
  case round =>
    obtain ⟨k, hk, rfl, HR, hb⟩ := hrel
    have HB := hide hb
    by_cases hlt : k < n
    · obtain ⟨bj, oj, t, r, d, u, rfl, hbj, hc0, hc1, hc2, hc3, hx⟩ := (HA.out.below hb).at_ (k := k) (by rw [HN.out]; exact hlt)
      have hkn : (k : Int) < (n : Int) := by omega
      have hlr := HR.out.lt
      have hfz := HR.out.frozen k
      have hcr := HR.out.cell hlt
      have HX := hide hx.out
      clear hx hb
      go_wp2
      go_roundw
      case rel =>
        refine ⟨k + 1, by omega, by go_num, hide (((HR.out.set k _).alloc _).congr fun a ha => ?_), (HB.out.setCell (Nat.le_refl _) _).alloc (by simp; exact HB.out.size) _⟩
        show (if a = k then Value.int .i64 t else Value.int .i64 (if a < k then (timesOf L).getD a 0 else 0)) = Value.int .i64 (if a < k + 1 then (timesOf L).getD a 0 else 0)
        by_cases e : a = k
        · subst e; rw [if_pos rfl, if_pos (by omega), timesOf_getD, HX.out]
        · rw [if_neg e]
          by_cases e2 : a < k
          · rw [if_pos e2, if_pos (by omega)]
          · rw [if_neg e2, if_neg (by omega)]
      case measure => simp [intOf] <;> omega
    · obtain rfl : n = k := by omega
      obtain ⟨wq, rfl⟩ : ∃ wq : World, wq = wr := ⟨_, rfl⟩
      have HR2 : Hid (wq.rowIs w.heap.size 3 n (fun a => .int .i64 ((runP true L 0).1.getD a 0))) := HR.out.congr fun a ha => by rw [if_pos ha]; rfl
      clear HR hb
      go_wp2
      go_loopw [5, 9] (fun v5 v9 w2 => ∃ (k : Nat) (X : Option Addr) (m c' : Nat), k ≤ 300 ∧ v9 = .int .i64 k ∧ v5 = .slice X m c' ∧ m ≤ c' ∧ Hid ((runP true L k).2.length = m) ∧ Hid (w2.rowIs w.heap.size 3 n (fun a => .int .i64 ((runP true L k).1.getD a 0))) ∧
          Hid (w2.ownsRow (w.heap.size + 1) 44 3 (.slice X m c') m (pcells (runP true L k).2)) ∧ Below w.heap.size w w2) (fun _ v9 _ => 300 - (intOf v9).toNat)
      case atStart => exact ⟨0, none, 0, 0, by omega, rfl, rfl, Nat.le_refl _, hide rfl, HR2, hide (World.ownsRow_nil _ _ _ _), HB.out⟩
      case round =>
        obtain ⟨k, X, m, c', hk, rfl, rfl, hmc, HM, HT, HO, hb2⟩ := hrel
        obtain ⟨w2, rfl⟩ : ∃ w2 : World, w2 = wr := ⟨_, rfl⟩
        have HB2 := hide hb2
        have HOK := hide (runP_ok true HL.out k)
        have HZE := hide (fun h => runP_end (sh := true) (k := k) HL.out h)
        have HZ3 := hide (fun h => runP_300 (sh := true) (k := k) HL.out h)
        obtain ⟨s, hs⟩ : ∃ s, runP true L k = s := ⟨_, rfl⟩
        have HSN : Hid (runP true L (k + 1) = stepP true L k s) := by rw [← hs]; rfl
        rw [hs] at HM HT HO HOK HZE HZ3
        clear hs
        obtain ⟨t, out⟩ := s
        have HTL : Hid (t.length = n) := by rw [← HN.out]; exact HOK.out.len
        have HIT : Hid (IntsA w2 w2.heap.size (some ⟨w.heap.size, 0, none⟩) t) := ints_of_row HT.out HTL.out.symm (fun a ha => rfl)
        have HMX := hide (maxL_any (some ⟨w.heap.size, 0, none⟩) n n w2.heap.size t w2 HTL.out h8 h1 HIT.out)
        have HMZ := hide (maxTo_z HTL.out h1)
        obtain ⟨mx, hmx⟩ : ∃ mx, maxTo t (n - 1) = mx := ⟨_, rfl⟩
        rw [hmx] at HMX HMZ
        clear hmx hb2
        by_cases hz : AllZ t
        · have hd : decide (0 < mx) = false := by rw [HMZ.out]; exact @decide_eq_false _ (Classical.propDecidable _) (fun h => h hz)
          have HE : Hid (out = planN true L) := HZE.out hz
          have HPO := hide (pcs_of_own HO.out)
          clear hz
          go_wp2_with (go_at_call 79; refine (HMX.out).mono ?_; rintro e w' ⟨rfl, rfl⟩)
          go_ret
          exact ⟨X, m, c', rfl, by rw [← HE.out]; exact HM.out, hmc, by rw [← HE.out]; exact HPO.out, HB2.out⟩
        · have hd : decide (0 < mx) = true := by rw [HMZ.out]; exact @decide_eq_true _ (Classical.propDecidable _) hz
          have hk3 : k < 300 := Nat.lt_of_not_le fun h => hz (HZ3.out h)
          have HF := hide (fun (i g : Nat) (hi : i < n) (hg : g < n) (w9 : World) (hb9 : Below w2.heap.size w2 w9) => sfirst_any (some ⟨w.heap.size, 0, none⟩) n n t i g w9 HTL.out h8 hi hg (HIT.out.next hb9))
          clear hz
          go_wp2_with (go_at_call 79; refine (HMX.out).mono ?_; rintro e w' ⟨rfl, rfl⟩)
          go_loopw [10, 37] (fun v10 v37 w3 => ∃ (i : Nat) (z : Int), i ≤ n ∧ v37 = .int .i64 i ∧ v10 = .int .i64 z ∧ -1 ≤ z ∧ z < i ∧ Hid (z = pkTo true L t k i) ∧ Below w2.heap.size w2 w3) (fun _ v37 _ => n - (intOf v37).toNat)
          case atStart => exact ⟨0, -1, Nat.zero_le _, rfl, rfl, by omega, by omega, hide rfl, Below.refl _ _⟩
          case round =>
            obtain ⟨i, z, hi, rfl, rfl, hz0, hz1, HZ, hb3⟩ := hrel
            obtain ⟨w3, rfl⟩ : ∃ w3 : World, w3 = wr := ⟨_, rfl⟩
            have HB3 := hide hb3
            have HW3 := hide (HB2.out.trans (hb3.mono HB2.out.size))
            by_cases hlt : i < n
            · obtain ⟨bj, oj, t', r, d, u, rfl, hbj, hc0, hc1, hc2, hc3, hx⟩ := (HA.out.below HW3.out).at_ (k := i) (by rw [HN.out]; exact hlt)
              have hin : (i : Int) < (n : Int) := by omega
              obtain ⟨ti, hti⟩ : ∃ ti, t.getD i 0 = ti := ⟨_, rfl⟩
              have hci : w3.cell? ⟨w.heap.size, i, none⟩ = some (.int .i64 ti) := by rw [← hti]; exact (hb3.cell (p := ⟨w.heap.size, i, none⟩) HT.out.lt).trans (HT.out.cell hlt)
              have hs3 : w.heap.size < w3.heap.size := Nat.lt_of_lt_of_le HT.out.lt hb3.size
              have HX := hide hx.out
              have HTI := hide hti
              clear hx hti hb3
              have HBW : Hid (∀ o, Below w2.heap.size w2 (w3.alloc o)) := fun o => HB3.out.alloc HB3.out.size _
              by_cases hr : r ≤ (k : Int)
              · by_cases ht0 : 0 < ti
                · have d1 : decide (r ≤ (k : Int)) = true := decide_eq_true hr
                  have d2 : decide (0 < ti) = true := decide_eq_true ht0
                  by_cases hz : z < 0
                  · have d3 : decide (z < 0) = true := decide_eq_true hz
                    have HNX : Hid ((i : Int) = pkTo true L t k (i + 1)) := by rw [pkTo, if_pos ⟨by rw [HX.out]; exact hr, by rw [HTI.out]; exact ht0, .inl (by rw [← HZ.out]; exact hz)⟩]; exact hide rfl
                    go_wp2
                    go_roundw
                    case rel => exact ⟨i + 1, (i : Int), by omega, by go_num, rfl, by omega, by omega, HNX, HBW.out _⟩
                    case measure => simp [intOf] <;> omega
                  · have d3 : decide (z < 0) = false := decide_eq_false hz
                    obtain ⟨g, rfl⟩ : ∃ g : Nat, z = g := ⟨z.toNat, by omega⟩
                    have HFF := hide (fun w9 hb9 => HF.out i g hlt (by omega) w9 hb9)
                    obtain ⟨q, hq⟩ : ∃ q, q = decide (t.getD i 0 < t.getD g 0) := ⟨_, rfl⟩
                    rw [← hq] at HFF
                    have HQ : Hid (q = true ↔ keyP true L t i < keyP true L t g) := by rw [hq, decide_eq_true_eq]; exact Iff.rfl
                    clear hq
                    cases q
                    · have HNX : Hid ((g : Int) = pkTo true L t k (i + 1)) := by
                        rw [pkTo, ← HZ.out, if_neg (fun h => by rcases h.2.2 with h | h; exact hz h; exact absurd (HQ.out.2 h) (by simp))]; exact hide rfl
                      go_wp2_with (go_at_call 110; refine (HFF.out _ (HBW.out _)).mono ?_; rintro e w4 ⟨rfl, hb4⟩; have HB4 := hide hb4; clear hb4)
                      go_roundw
                      case rel => exact ⟨i + 1, (g : Int), by omega, by go_num, rfl, by omega, by omega, HNX, (HBW.out _).trans (HB4.out.mono (HBW.out _).size)⟩
                      case measure => simp [intOf] <;> omega
                    · have HNX : Hid ((i : Int) = pkTo true L t k (i + 1)) := by
                        rw [pkTo, ← HZ.out, if_pos ⟨by rw [HX.out]; exact hr, by rw [HTI.out]; exact ht0, .inr (HQ.out.1 rfl)⟩]; exact hide rfl
                      go_wp2_with (go_at_call 110; refine (HFF.out _ (HBW.out _)).mono ?_; rintro e w4 ⟨rfl, hb4⟩; have HB4 := hide hb4; clear hb4)
                      go_roundw
                      case rel => exact ⟨i + 1, (i : Int), by omega, by go_num, rfl, by omega, by omega, HNX, (HBW.out _).trans (HB4.out.mono (HBW.out _).size)⟩
                      case measure => simp [intOf] <;> omega
                · have d1 : decide (r ≤ (k : Int)) = true := decide_eq_true hr
                  have d2 : decide (0 < ti) = false := decide_eq_false ht0
                  have HNX : Hid (z = pkTo true L t k (i + 1)) := by rw [pkTo, if_neg (fun h => ht0 (by rw [← HTI.out]; exact h.2.1))]; exact HZ.out
                  go_wp2
                  go_roundw
                  case rel => exact ⟨i + 1, z, by omega, by go_num, rfl, by omega, by omega, HNX, HBW.out _⟩
                  case measure => simp [intOf] <;> omega
              · have d1 : decide (r ≤ (k : Int)) = false := decide_eq_false hr
                have HNX : Hid (z = pkTo true L t k (i + 1)) := by rw [pkTo, if_neg (fun h => hr (by have := h.1; rw [HX.out] at this; exact this))]; exact HZ.out
                go_wp2
                go_roundw
                case rel => exact ⟨i + 1, z, by omega, by go_num, rfl, by omega, by omega, HNX, HBW.out _⟩
                case measure => simp [intOf] <;> omega
            · obtain rfl : n = i := by omega
              have HPK : Hid (z = pk true L t k) := by rw [pk, HN.out]; exact HZ.out
              by_cases hz : z < 0
              · have d3 : decide (z < 0) = true := decide_eq_true hz
                have HST : Hid (runP true L (k + 1) = (t, out)) := by rw [HSN.out, stepP]; simp only []; rw [← HPK.out, if_pos hz]; exact hide rfl
                have HR3 := hide (HT.out.of_block (HB3.out.block _ HT.out.lt))
                have HO3 := hide (own_keepS HO.out (fun g hg => HB3.out.block g (own_ltS HO.out g hg).2))
                clear hb3
                go_wp2
                go_roundw
                case rel => exact ⟨k + 1, X, m, c', by omega, by go_num, rfl, hmc, by rw [HST.out]; exact HM, by rw [HST.out]; exact HR3, by rw [HST.out]; exact HO3, HW3.out⟩
                case measure => simp [intOf] <;> omega
              · have d3 : decide (z < 0) = false := decide_eq_false hz
                obtain ⟨g, rfl⟩ : ∃ g : Nat, z = g := ⟨z.toNat, by omega⟩
                have hgn : g < n := by omega
                have hgi : (g : Int) < (n : Int) := by omega
                have HST : Hid (runP true L (k + 1) = (t.set g (t.getD g 0 - 1), addP out g k)) := by rw [HSN.out, stepP]; simp only []; rw [← HPK.out, if_neg hz, Int.toNat_natCast]; exact hide rfl
                have HR3 := hide (HT.out.of_block (HB3.out.block _ HT.out.lt))
                have HO3 := hide (own_keepS HO.out (fun g hg => HB3.out.block g (own_ltS HO.out g hg).2))
                obtain ⟨tg, htg⟩ : ∃ tg, t.getD g 0 = tg := ⟨_, rfl⟩
                have hcg : w3.cell? ⟨w.heap.size, g, none⟩ = some (.int .i64 tg) := by rw [← htg]; exact HR3.out.cell hgn
                have hfg : w3.frozen? ⟨w.heap.size, g, none⟩ = false := HR3.out.frozen g
                have hs3 : w.heap.size < w3.heap.size := HR3.out.lt
                have HR4 := hide (HR3.out.set g (.int .i64 (tg - 1)))
                have HO4 := hide (own_farS (b' := w.heap.size) (i := g) HO3.out (fun x hx h => by have := (own_ltS HO3.out x hx).1; omega) (.int .i64 (tg - 1)))
                have htb : 0 ≤ tg ∧ tg ≤ 20 := by
                  have h1 := HOK.out.bd g (by rw [HN.out]; exact hgn)
                  have h2 := HL.out.at_ g (by rw [HN.out]; exact hgn)
                  simp only [] at h1
                  omega
                obtain ⟨htb0, htb1⟩ := htb
                have HTG := hide htg
                have HB4 : Hid (Below w.heap.size w (w3.setCell ⟨w.heap.size, g, none⟩ (.int .i64 (tg - 1)))) := HW3.out.setCell (Nat.le_refl _) _
                have HR5 : Hid ((w3.setCell ⟨w.heap.size, g, none⟩ (.int .i64 (tg - 1))).rowIs w.heap.size 3 n (fun a => .int .i64 ((t.set g (t.getD g 0 - 1)).getD a 0))) := HR4.out.congr fun a ha => by
                  rw [getD_set_i _ _ _ _ _ (by rw [HTL.out]; exact hgn), HTG.out]
                  by_cases e : a = g
                  · rw [if_pos e, if_pos e]
                  · rw [if_neg e, if_neg e]
                have hmk : m ≤ 300 := by have := HOK.out.num; have := HM.out; simp only [] at *; omega
                have HSZ4 : Hid (w.heap.size + 1 ≤ (w3.setCell ⟨w.heap.size, g, none⟩ (.int .i64 (tg - 1))).heap.size) := HR5.out.lt
                have hone : ∀ u ∈ [Value.int .i64 (g : Nat), .int .i64 (k : Nat), .int .i64 ((k : Int) + 1)], u.oneCell' = true := by intro u hu; simp at hu; rcases hu with rfl | rfl | rfl <;> rfl
                clear htg hb3 HR4
                by_cases hm0 : m = 0
                · subst hm0
                  have HAD : Hid (addP out g k = out ++ [⟨g, k, k + 1⟩]) := by rw [addP, if_neg (fun h => by have := HM.out; omega)]; exact hide rfl
                  go_wp2_with (at_builtin; refine wpList_appS (w0 := w3.setCell ⟨w.heap.size, g, none⟩ (.int .i64 (tg - 1))) _ _ 23 44 (.agg #[.int .i64 0, .int .i64 0, .int .i64 0]) 3 24 rfl rfl Try.underlying23 info_piece rfl (by decide) (w.heap.size + 1) (.slice X 0 c') 0 (pcells out) [.int .i64 (g : Nat), .int .i64 (k : Nat), .int .i64 ((k : Int) + 1)] rfl rfl (by simp [Act.eval]) rfl ⟨_, rfl⟩ HO4.out hone (by omega) (by omega) HSZ4.out ?_; intro ga cg w7 hown1 hd1 hd2 hg1 hgl2 hgrow; have HOW7 := hide hown1; have HG := hide hgrow; clear hown1 hgrow)
                  go_roundw
                  case rel =>
                    refine ⟨k + 1, some ⟨ga, 0, none⟩, 0 + 1, cg, by omega, by go_num, rfl, hd1, ?_, ?_, ?_, HB4.out.grown HG.out HB4.out.size (fun x hx => by have := (own_ltS HO4.out x hx).1; omega)⟩
                    · rw [HST.out, HAD.out]; exact hide (by rw [List.length_append, HM.out]; rfl)
                    · rw [HST.out]; exact hide (HR5.out.of_block (HG.out.block _ HR5.out.lt (fun e => by have := (own_ltS HO4.out _ e.symm).1; omega)))
                    · rw [HST.out, HAD.out, pcells_snoc]; exact HOW7
                  case measure => simp [intOf] <;> omega
                · obtain ⟨q, rfl⟩ : ∃ q, m = q + 1 := ⟨m - 1, by omega⟩
                  obtain ⟨g2, cc, hX, hg2, hcc, hcm, hg2l⟩ := own_formS HO3.out (by omega)
                  injection hX with hX1 _ hX2
                  subst hX1; subst hX2
                  have hql : q < out.length := by rw [HM.out]; omega
                  obtain ⟨jo, fo, to, hp⟩ : ∃ jo fo to, out.getD q p0 = ⟨jo, fo, to⟩ := ⟨_, _, _, rfl⟩
                  have hca := pcells_at out q hql
                  rw [hp] at hca
                  have y0 := own_cell HO4.out hca.1
                  have y2 := own_cell HO4.out hca.2.2
                  have f2 := own_free HO4.out (q * 3 + 2)
                  have HPQ := hide hp
                  have HS4 := hide (own_set HO4.out (i := q * 3 + 2) (by omega) (.int .i64 (to + 1)))
                  have hto : 0 ≤ to ∧ to ≤ 300 := by have h := HOK.out.pc q hql; simp only [] at h; rw [hp] at h; simp only [] at h; omega
                  obtain ⟨hto0, hto1⟩ := hto
                  have hgne : g2 ≠ w.heap.size := by omega
                  have hqi : ((q : Int) + 1) - 1 = q := by omega
                  have hql2 : (q : Int) < (q : Int) + 1 := by omega
                  clear hp hca hql
                  by_cases hjo : jo = (g : Int)
                  · by_cases hto2 : to = (k : Int)
                    · have e1 : (jo == (g : Int)) = true := by simp [hjo]
                      have e2 : (to == (k : Int)) = true := by simp [hto2]
                      have HAD : Hid (addP out g k = out.set q ⟨jo, fo, to + 1⟩) := by
                        rw [addP, HM.out, show q + 1 - 1 = q by omega, HPQ.out, if_pos ⟨by omega, hjo, hto2⟩, hto2]; exact hide rfl
                      clear hjo hto2
                      go_wp2
                      go_roundw
                      case rel =>
                        refine ⟨k + 1, some ⟨g2, 0, none⟩, q + 1, _, by omega, by go_num, rfl, hmc, ?_, ?_, ?_, HB4.out.setCell (show w.heap.size ≤ g2 by omega) _⟩
                        · rw [HST.out, HAD.out]; exact hide (by rw [List.length_set]; exact HM.out)
                        · rw [HST.out]; exact hide (HR5.out.setOther (fun e => hgne e.symm) _)
                        · rw [HST.out, HAD.out]
                          have e9 := pcells_set2 out q (to + 1) (by rw [HM.out]; omega)
                          rw [HPQ.out] at e9
                          rw [← e9]; exact HS4
                      case measure => simp [intOf] <;> omega
                    · have e1 : (jo == (g : Int)) = true := by simp [hjo]
                      have e2 : (to == (k : Int)) = false := by simp [hto2]
                      have HAD : Hid (addP out g k = out ++ [⟨g, k, k + 1⟩]) := by rw [addP, HM.out, show q + 1 - 1 = q by omega, HPQ.out, if_neg (fun h => hto2 h.2.2)]; exact hide rfl
                      clear hjo hto2
                      go_wp2_with (at_builtin; refine wpList_appS (w0 := w3.setCell ⟨w.heap.size, g, none⟩ (.int .i64 (tg - 1))) _ _ 23 44 (.agg #[.int .i64 0, .int .i64 0, .int .i64 0]) 3 24 rfl rfl Try.underlying23 info_piece rfl (by decide) (w.heap.size + 1) (.slice (some ⟨g2, 0, none⟩) (q + 1) c') (q + 1) (pcells out) [.int .i64 (g : Nat), .int .i64 (k : Nat), .int .i64 ((k : Int) + 1)] rfl rfl (by simp [Act.eval]) rfl ⟨_, rfl⟩ HO4.out hone (by omega) (by omega) HSZ4.out ?_; intro ga cg w7 hown1 hd1 hd2 hg1 hgl2 hgrow; have HOW7 := hide hown1; have HG := hide hgrow; clear hown1 hgrow)
                      go_roundw
                      case rel =>
                        refine ⟨k + 1, some ⟨ga, 0, none⟩, (q + 1) + 1, cg, by omega, by go_num, rfl, hd1, ?_, ?_, ?_, HB4.out.grown HG.out HB4.out.size (fun x hx => by have := (own_ltS HO4.out x hx).1; omega)⟩
                        · rw [HST.out, HAD.out]; exact hide (by rw [List.length_append, HM.out]; rfl)
                        · rw [HST.out]; exact hide (HR5.out.of_block (HG.out.block _ HR5.out.lt (fun e => by have := (own_ltS HO4.out _ e.symm).1; omega)))
                        · rw [HST.out, HAD.out, pcells_snoc]; exact HOW7
                      case measure => simp [intOf] <;> omega
                  · have e1 : (jo == (g : Int)) = false := by simp [hjo]
                    have HAD : Hid (addP out g k = out ++ [⟨g, k, k + 1⟩]) := by rw [addP, HM.out, show q + 1 - 1 = q by omega, HPQ.out, if_neg (fun h => hjo h.2.1)]; exact hide rfl
                    clear hjo
                    go_wp2_with (at_builtin; refine wpList_appS (w0 := w3.setCell ⟨w.heap.size, g, none⟩ (.int .i64 (tg - 1))) _ _ 23 44 (.agg #[.int .i64 0, .int .i64 0, .int .i64 0]) 3 24 rfl rfl Try.underlying23 info_piece rfl (by decide) (w.heap.size + 1) (.slice (some ⟨g2, 0, none⟩) (q + 1) c') (q + 1) (pcells out) [.int .i64 (g : Nat), .int .i64 (k : Nat), .int .i64 ((k : Int) + 1)] rfl rfl (by simp [Act.eval]) rfl ⟨_, rfl⟩ HO4.out hone (by omega) (by omega) HSZ4.out ?_; intro ga cg w7 hown1 hd1 hd2 hg1 hgl2 hgrow; have HOW7 := hide hown1; have HG := hide hgrow; clear hown1 hgrow)
                    go_roundw
                    case rel =>
                      refine ⟨k + 1, some ⟨ga, 0, none⟩, (q + 1) + 1, cg, by omega, by go_num, rfl, hd1, ?_, ?_, ?_, HB4.out.grown HG.out HB4.out.size (fun x hx => by have := (own_ltS HO4.out x hx).1; omega)⟩
                      · rw [HST.out, HAD.out]; exact hide (by rw [List.length_append, HM.out]; rfl)
                      · rw [HST.out]; exact hide (HR5.out.of_block (HG.out.block _ HR5.out.lt (fun e => by have := (own_ltS HO4.out _ e.symm).1; omega)))
                      · rw [HST.out, HAD.out, pcells_snoc]; exact HOW7
                    case measure => simp [intOf] <;> omega
end Go.Proofs.Ytiadineakhcclaa

/-
  dates: due, finished, delay, Plan, Delay, Short.
-/
namespace Go.Proofs.Ytiadineakhcclaa
open Go.RowKit
set_option linter.unusedVariables false
set_option linter.unusedSimpArgs false

set_option maxHeartbeats 800000 in
theorem due_any (A : Option Addr) (n c : Nat) (L : List J4) (w : World) (hn : L.length = n) (hL : JobsOk L) (hA : JobsA w w.heap.size A L) :
    Calls Try.prog 59 #[.slice A n c] w fun e w' => ∃ X m c', e = .returned (.slice X m c') ∧ (planN false L).length = m ∧ m ≤ c' ∧ PcsA w' w'.heap.size X (planN false L) ∧ Below w.heap.size w w' := by
  have HP := hide (planD_any A n c L w hn hL hA)
  clear hn hL hA
  go_enter Try.func59, Try.ntmps59
  go_wp2_with (go_at_call 55; refine (HP.out).mono ?_; rintro e w' ⟨X, m, c', rfl, h1, h2, h3, h4⟩; have H1 := hide h1; have H3 := hide h3; have H4 := hide h4; clear h1 h3 h4)
  go_ret
  exact ⟨X, m, c', rfl, H1.out, h2, H3.out, H4.out⟩

/-- Pieces whose jobs are jobs. -/
def PcOk (n : Nat) (p : List P3) : Prop := ∀ q, q < p.length → 0 ≤ (p.getD q p0).job ∧ (p.getD q p0).job < n
set_option maxHeartbeats 1600000 in
theorem finished_any (A : Option Addr) (n c : Nat) (P : Option Addr) (m pc : Nat) (p : List P3) (w : World) (hn : n ≤ 8) (hm : p.length = m) (hmm : m ≤ 9223372036854775807) (hok : PcOk n p) (hP : PcsA w w.heap.size P p) :
    Calls Try.prog 56 #[.slice A n c, .slice P m pc] w fun e w' => ∃ X c', e = .returned (.slice X n c') ∧ n ≤ c' ∧ IntsA w' w'.heap.size X (finN n p) ∧ Below w.heap.size w w' := by
  have hmk := run_make_row' (P := Try.prog) 41 3 (.int .i64 0) 8 Try.underlying41 info_int rfl .i64 .i64 n (by omega) (by omega)
  obtain ⟨w1, hw1⟩ : ∃ w1, w1 = w.alloc (.cells (madeCells #[.int .i64 0] n) 3) := ⟨_, rfl⟩
  have HR1 : Hid (w1.rowIs w.heap.size 3 n (fun a => .int .i64 ((finTo n p 0).getD a 0))) := by
    subst hw1
    refine (World.rowIs_made w (.int .i64 0) n _).congr fun a ha => ?_
    rw [finTo, List.getD_eq_getElem?_getD, List.getElem?_replicate, if_pos ha]; rfl
  have HB1 : Hid (Below w.heap.size w w1) := by subst hw1; exact (Below.refl _ _).alloc (Nat.le_refl _) _
  have HM := hide hm
  have HOK := hide hok
  have HP := hide hP
  have hmn : (0 : Int) ≤ n := by omega
  clear hm hok hP
  go_enter Try.func56, Try.ntmps56
  go_wp2
  rw [← hw1]
  clear hw1 hmk
  go_loopw [13] (fun v wr => ∃ k : Nat, k ≤ m ∧ v = .int .i64 k ∧ Hid (wr.rowIs w.heap.size 3 n (fun a => .int .i64 ((finTo n p k).getD a 0))) ∧ Below w.heap.size w wr) (fun v _ => m - (intOf v).toNat)
  case atStart => exact ⟨0, Nat.zero_le _, rfl, HR1, HB1.out⟩
  case round =>
    obtain ⟨k, hk, rfl, HR, hb⟩ := hrel
    have HB := hide hb
    by_cases hlt : k < m
    · obtain ⟨bj, oj, j, f, t, rfl, hbj, hc0, hc1, hc2, hx⟩ := (HP.out.below hb).at_ (k := k) (by rw [HM.out]; exact hlt)
      have hkn : (k : Int) < (m : Int) := by omega
      have hj := HOK.out k (by rw [HM.out]; exact hlt)
      rw [hx.out] at hj
      obtain ⟨i, rfl⟩ : ∃ i : Nat, j = i := ⟨j.toNat, by have := hj.1; simp only [] at this; omega⟩
      have hi : i < n := by have := hj.2; simp only [] at this; omega
      have hin : (i : Int) < (n : Int) := by omega
      have hfz := HR.out.frozen i
      have hcr : ∃ v, wr.cell? ⟨w.heap.size, i, none⟩ = some v := ⟨_, HR.out.cell hi⟩
      obtain ⟨v, hcr⟩ := hcr
      have hs3 : w.heap.size < wr.heap.size := HR.out.lt
      have HX := hide hx.out
      clear hx hb hj
      go_wp2
      go_roundw
      case rel =>
        refine ⟨k + 1, by omega, by go_num, hide (((HR.out.set i _).alloc _).congr fun a ha => ?_), (HB.out.setCell (Nat.le_refl _) _).alloc (by simp; exact HB.out.size) _⟩
        rw [finTo, HX.out]
        show (if a = i then Value.int .i64 t else Value.int .i64 ((finTo n p k).getD a 0)) = Value.int .i64 (((finTo n p k).set i t).getD a 0)
        rw [getD_set_i _ _ _ _ _ (by rw [finTo_len]; exact hi)]
        by_cases e : a = i
        · rw [if_pos e, if_pos e]
        · rw [if_neg e, if_neg e]
      case measure => simp [intOf] <;> omega
    · obtain rfl : m = k := by omega
      have HI := hide (ints_of_row HR.out (by rw [finTo_len]) (fun i hi => rfl))
      have HE : Hid (finTo n p m = finN n p) := by rw [finN, HM.out]; exact hide rfl
      go_wp2
      go_ret
      exact ⟨_, n, rfl, Nat.le_refl _, by rw [← HE.out]; exact HI.out, hb⟩

def delTo (L : List J4) (e : List Int) : Nat → Int
  | 0 => e.getD 0 0 - (L.getD 0 j0).d
  | k + 1 => max (delTo L e k) (e.getD k 0 - (L.getD k j0).d)
/-- The greatest delay. -/
def delN (L : List J4) (p : List P3) : Int := delTo L (finN L.length p) L.length
theorem delTo_bd {L : List J4} {e : List Int} (hL : JobsOk L) (he : ∀ i, 0 ≤ e.getD i 0 ∧ e.getD i 0 ≤ 1000) : ∀ k, k ≤ L.length → -200 ≤ delTo L e k ∧ delTo L e k ≤ 1000
  | 0, _ => by rw [delTo]; have := he 0; have := hL.at_ 0 hL.pos; omega
  | k + 1, hk => by rw [delTo]; have := delTo_bd hL he k (by omega); have := he k; have := hL.at_ k (by omega); omega
structure PlOk (n : Nat) (p : List P3) : Prop where
  len : p.length ≤ 1000
  job : PcOk n p
  to : ∀ q, q < p.length → 0 ≤ (p.getD q p0).to ∧ (p.getD q p0).to ≤ 1000
theorem planN_ok (sh : Bool) {L : List J4} (hL : JobsOk L) : PlOk L.length (planN sh L) := by
  have h := runP_ok sh hL 300
  exact ⟨by have := h.num; rw [planN]; omega, fun q hq => ⟨(h.pc q hq).1, (h.pc q hq).2.1⟩, fun q hq => by have h1 := h.pc q hq; constructor <;> (show _ ≤ _; rw [planN]; omega)⟩
theorem finN_bd {n : Nat} {p : List P3} (h : PlOk n p) (i : Nat) : 0 ≤ (finN n p).getD i 0 ∧ (finN n p).getD i 0 ≤ 1000 := finTo_bd (by omega) h.to _ (Nat.le_refl _) i

set_option maxHeartbeats 1600000 in
theorem delay_any (A : Option Addr) (n c : Nat) (L : List J4) (P : Option Addr) (m pc : Nat) (p : List P3) (w : World) (hn : L.length = n) (hL : JobsOk L) (hm : p.length = m) (hok : PlOk n p) (hA : JobsA w w.heap.size A L) (hP : PcsA w w.heap.size P p) :
    Calls Try.prog 60 #[.slice A n c, .slice P m pc] w fun e w' => e = .returned (.int .i64 (delN L p)) ∧ Below w.heap.size w w' := by
  have h8 : n ≤ 8 := by rw [← hn]; exact hL.le
  have h1 : 1 ≤ n := by rw [← hn]; exact hL.pos
  have HF := hide (finished_any A n c P m pc p w h8 hm (by have := hok.len; omega) hok.job hP)
  have HE := hide (finN_bd hok)
  have HN := hide hn
  have HL := hide hL
  have HA := hide hA
  have HD : Hid (delN L p = delTo L (finN n p) n) := by rw [← hn]; exact hide rfl
  have hel : (finN n p).length = n := finTo_len n p _
  have HEL := hide hel
  have hn0 : (0 : Int) < (n : Int) := by omega
  clear hn hL hm hok hA hP hel
  obtain ⟨ends, hends⟩ : ∃ ends, finN n p = ends := ⟨_, rfl⟩
  rw [hends] at HF HE HD HEL
  clear hends
  go_enter Try.func60, Try.ntmps60
  go_wp2_with (go_at_call 56; refine (HF.out).mono ?_; rintro e w1 ⟨X, c', rfl, hc', hI, hb⟩; have HI := hide hI; have HB := hide hb; clear hI hb)
  obtain ⟨b0, o0, x0, rfl, hb0, hc0, hx0⟩ := HI.out.at_ (k := 0) (by rw [HEL.out]; exact h1)
  obtain ⟨bj, oj, t, r, d, u, rfl, hbj, hj0, hj1, hj2, hj3, hxj⟩ := (HA.out.next HB.out).at_ (k := 0) (by rw [HN.out]; exact h1)
  rw [Nat.add_zero] at hc0
  rw [Nat.zero_mul, Nat.add_zero] at hj0 hj1 hj2 hj3
  have hxb := HE.out 0
  rw [hx0.out] at hxb
  obtain ⟨hxb0, hxb1⟩ := hxb
  have hdb := HL.out.at_ 0 (by rw [HN.out]; exact h1)
  rw [hxj.out] at hdb
  simp only [] at hdb
  obtain ⟨_, _, _, _, hdb0, hdb1, _, _⟩ := hdb
  have HD0 : Hid (x0 - d = delTo L ends 0) := by rw [delTo, hx0.out, hxj.out]; exact hide rfl
  have HS : Hid (IntKind.i64.wrap (x0 - d) = x0 - d) := by rw [IntKind.wrap_i64]; exact hide (by omega)
  have hs := HS.out
  clear hx0 hxj
  go_quiet (fail)
  clear hs hc0 hj0 hj1 hj2 hj3
  have HBD : Hid (∀ q, Below w1.heap.size w1 (w1.drewN q)) := fun q => below_drewN (Below.refl _ _) q
  go_wp2
  go_loopw [6, 22] (fun v6 v22 wr => ∃ (k : Nat) (y : Int), k ≤ n ∧ v22 = .int .i64 k ∧ v6 = .int .i64 y ∧ Hid (y = delTo L ends k) ∧ Below w1.heap.size w1 wr) (fun _ v _ => n - (intOf v).toNat)
  case atStart => exact ⟨0, _, Nat.zero_le _, rfl, rfl, HD0, HBD.out _⟩
  case round =>
    obtain ⟨k, y, hk, rfl, rfl, HY, hb2⟩ := hrel
    by_cases hlt : k < n
    · obtain ⟨b1, o1, x, e1, hb1, hc1, hx⟩ := (HI.out.next hb2).at_ (k := k) (by rw [HEL.out]; exact hlt)
      injection e1 with e1; injection e1 with e2 e3
      subst e2; subst e3
      obtain ⟨bj2, oj2, t, r, d2, u, e1, hbj2, hj0, hj1, hj2, hj3, hxj⟩ := ((HA.out.next HB.out).next hb2).at_ (k := k) (by rw [HN.out]; exact hlt)
      injection e1 with e1; injection e1 with e2 e3
      subst e2; subst e3
      have hkn : (k : Int) < (n : Int) := by omega
      have hxb := HE.out k
      rw [hx.out] at hxb
      obtain ⟨hxb0, hxb1⟩ := hxb
      have hdb := HL.out.at_ k (by rw [HN.out]; exact hlt)
      rw [hxj.out] at hdb
      simp only [] at hdb
      obtain ⟨_, _, _, _, hdb0, hdb1, _, _⟩ := hdb
      have HYN : Hid ((if y < x - d2 then x - d2 else y) = delTo L ends (k + 1)) := by
        have e : (if y < x - d2 then x - d2 else y) = max y (x - d2) := by split <;> omega
        rw [e, delTo, ← HY.out, hx.out, hxj.out]; exact hide rfl
      have HS : Hid (IntKind.i64.wrap (x - d2) = x - d2) := by rw [IntKind.wrap_i64]; exact hide (by omega)
      have HBW : Hid (∀ o q, Below w1.heap.size w1 ((wr.alloc o).drewN q)) := fun o q => below_drewN (hb2.alloc hb2.size _) q
      have hs := HS.out
      clear hx hxj hb2
      go_wp2
      go_quiet (fail)
      go_wp2
      go_roundw
      case rel => exact ⟨k + 1, _, by omega, by go_num, rfl, HYN, HBW.out _ _⟩
      case measure => simp [intOf] <;> omega
    · obtain rfl : n = k := by omega
      have HYE : Hid (y = delN L p) := by rw [HD.out]; exact HY.out
      have e9 := HYE.out
      subst e9
      have HB9 := hide (HB.out.trans (hb2.mono HB.out.size))
      clear hb2
      go_wp2
      go_ret
      exact ⟨rfl, HB9.out⟩
end Go.Proofs.Ytiadineakhcclaa

/-
  dates: Plan, Delay, Short.
-/
namespace Go.Proofs.Ytiadineakhcclaa
open Go.RowKit Go.Deep
set_option linter.unusedVariables false
set_option linter.unusedSimpArgs false

set_option maxHeartbeats 800000 in
theorem plan_no (A : Option Addr) (n c : Nat) (L : List J4) (w : World) (hn : L.length = n) (hlen : n ≤ 9223372036854775807) (hA : JobsA w w.heap.size A L) (hv : jobsB L = false) :
    Calls Try.prog 24 #[.slice A n c] w fun e w' => e = .returned (.tuple #[.slice none 0 0, .int .i64 2]) ∧ Below w.heap.size w w' := by
  have HV := hide (jvalid_any A n c L w hn hlen hA)
  rw [hv] at HV
  clear hv hA hn
  go_enter Try.func24, Try.ntmps24
  go_wp2_with (first | (go_at_call 54; refine (HV.out).mono ?_; rintro e w1 ⟨rfl, hb1⟩; have HB1 := hide hb1; clear hb1))
  go_ret2
  exact ⟨rfl, HB1.out⟩
set_option maxHeartbeats 800000 in
theorem delayA_no (A : Option Addr) (n c : Nat) (L : List J4) (w : World) (hn : L.length = n) (hlen : n ≤ 9223372036854775807) (hA : JobsA w w.heap.size A L) (hv : jobsB L = false) :
    Calls Try.prog 25 #[.slice A n c] w fun e w' => e = .returned (.tuple #[.int .i64 0, .int .i64 2]) ∧ Below w.heap.size w w' := by
  have HV := hide (jvalid_any A n c L w hn hlen hA)
  rw [hv] at HV
  clear hv hA hn
  go_enter Try.func25, Try.ntmps25
  go_wp2_with (first | (go_at_call 54; refine (HV.out).mono ?_; rintro e w1 ⟨rfl, hb1⟩; have HB1 := hide hb1; clear hb1))
  go_ret2
  exact ⟨rfl, HB1.out⟩
set_option maxHeartbeats 800000 in
theorem short_no (A : Option Addr) (n c : Nat) (L : List J4) (w : World) (hn : L.length = n) (hlen : n ≤ 9223372036854775807) (hA : JobsA w w.heap.size A L) (hv : jobsB L = false) :
    Calls Try.prog 17 #[.slice A n c] w fun e w' => e = .returned (.tuple #[.slice none 0 0, .int .i64 0, .int .i64 2]) ∧ Below w.heap.size w w' := by
  have HV := hide (jvalid_any A n c L w hn hlen hA)
  rw [hv] at HV
  clear hv hA hn
  go_enter Try.func17, Try.ntmps17
  go_wp2_with (first | (go_at_call 54; refine (HV.out).mono ?_; rintro e w1 ⟨rfl, hb1⟩; have HB1 := hide hb1; clear hb1))
  exact bodyPost_ret (v := .tuple #[.slice none 0 0, .int .i64 0, .int .i64 2]) (by simp [results, Try.results17, go_sem]) rfl ⟨rfl, HB1.out⟩
set_option maxHeartbeats 800000 in
theorem plan_yes (A : Option Addr) (n c : Nat) (L : List J4) (w : World) (hn : L.length = n) (hlen : n ≤ 9223372036854775807) (hA : JobsA w w.heap.size A L) (hv : jobsB L = true) :
    Calls Try.prog 24 #[.slice A n c] w fun e w' => ∃ X m c', e = .returned (.tuple #[.slice X m c', .int .i64 0]) ∧ (planN false L).length = m ∧ m ≤ c' ∧ PcsA w' w'.heap.size X (planN false L) ∧ Below w.heap.size w w' := by
  have HV := hide (jvalid_any A n c L w hn hlen hA)
  rw [hv] at HV
  have HD := hide (fun w1 (hb : Below w.heap.size w w1) => due_any A n c L w1 hn (jobsB_iff.1 hv) (hA.next hb))
  clear hv hA hn
  go_enter Try.func24, Try.ntmps24
  go_wp2_with (first
    | (go_at_call 54; refine (HV.out).mono ?_; rintro e w1 ⟨rfl, hb1⟩; have HB1 := hide hb1; clear hb1)
    | (go_at_call 59; refine (HD.out _ HB1.out).mono ?_; rintro e w2 ⟨X, m, c', rfl, h1, h2, h3, h4⟩; have H1 := hide h1; have H3 := hide h3; have H4 := hide h4; clear h1 h3 h4))
  go_ret2
  exact ⟨X, m, c', rfl, H1.out, h2, H3.out, HB1.out.trans (H4.out.mono HB1.out.size)⟩
set_option maxHeartbeats 800000 in
theorem delayA_yes (A : Option Addr) (n c : Nat) (L : List J4) (w : World) (hn : L.length = n) (hlen : n ≤ 9223372036854775807) (hA : JobsA w w.heap.size A L) (hv : jobsB L = true) :
    Calls Try.prog 25 #[.slice A n c] w fun e w' => e = .returned (.tuple #[.int .i64 (delN L (planN false L)), .int .i64 0]) ∧ Below w.heap.size w w' := by
  have HV := hide (jvalid_any A n c L w hn hlen hA)
  rw [hv] at HV
  have HD := hide (fun w1 (hb : Below w.heap.size w w1) => due_any A n c L w1 hn (jobsB_iff.1 hv) (hA.next hb))
  have HE := hide (fun P m pc w2 (hb : Below w.heap.size w w2) hm (hP : PcsA w2 w2.heap.size P (planN false L)) => delay_any A n c L P m pc (planN false L) w2 hn (jobsB_iff.1 hv) hm (planN_ok false (jobsB_iff.1 hv)|> fun h => hn ▸ h) (hA.next hb) hP)
  clear hv hA hn
  go_enter Try.func25, Try.ntmps25
  go_wp2_with (first
    | (go_at_call 54; refine (HV.out).mono ?_; rintro e w1 ⟨rfl, hb1⟩; have HB1 := hide hb1; clear hb1)
    | (go_at_call 59; refine (HD.out _ HB1.out).mono ?_; rintro e w2 ⟨X, m, c', rfl, h1, h2, h3, h4⟩; have H1 := hide h1; have H3 := hide h3; have H4 := hide (HB1.out.trans (h4.mono HB1.out.size)); clear h1 h3 h4)
    | (go_at_call 60; refine (HE.out _ _ _ _ H4.out H1.out H3.out).mono ?_; rintro e w3 ⟨rfl, h5⟩; have H5 := hide h5; clear h5))
  go_ret2
  exact ⟨rfl, H4.out.trans (H5.out.mono H4.out.size)⟩
/-- The sum of the ends. -/
def endSum (L : List J4) (p : List P3) : Int := sumT (finN L.length p) L.length
set_option maxHeartbeats 1600000 in
theorem short_yes (A : Option Addr) (n c : Nat) (L : List J4) (w : World) (hn : L.length = n) (hlen : n ≤ 9223372036854775807) (hA : JobsA w w.heap.size A L) (hv : jobsB L = true) :
    Calls Try.prog 17 #[.slice A n c] w fun e w' => ∃ X m c', e = .returned (.tuple #[.slice X m c', .int .i64 (endSum L (planN true L)), .int .i64 0]) ∧ (planN true L).length = m ∧ m ≤ c' ∧ PcsA w' w'.heap.size X (planN true L) ∧ Below w.heap.size w w' := by
  have hL := jobsB_iff.1 hv
  have h8 : n ≤ 8 := by rw [← hn]; exact hL.le
  have hok : PlOk n (planN true L) := hn ▸ planN_ok true hL
  have HV := hide (jvalid_any A n c L w hn hlen hA)
  rw [hv] at HV
  have HD := hide (fun w1 (hb : Below w.heap.size w w1) => planS_any A n c L w1 hn hL (hA.next hb))
  have HE := hide (fun P m pc w2 (hb : Below w.heap.size w w2) hm (hP : PcsA w2 w2.heap.size P (planN true L)) => finished_any A n c P m pc (planN true L) w2 h8 hm (by have := hok.len; omega) hok.job hP)
  have HBD := hide (finN_bd hok)
  have HES : Hid (endSum L (planN true L) = sumT (finN n (planN true L)) n) := by rw [endSum, hn]; exact hide rfl
  have HEL : Hid ((finN n (planN true L)).length = n) := finTo_len n _ _
  clear hv hA hn hL hok
  obtain ⟨p, hp⟩ : ∃ p, planN true L = p := ⟨_, rfl⟩
  rw [hp] at HD HE HBD HES HEL
  rw [hp]
  clear hp
  obtain ⟨ends, hends⟩ : ∃ ends, finN n p = ends := ⟨_, rfl⟩
  rw [hends] at HE HBD HES HEL
  clear hends
  go_enter Try.func17, Try.ntmps17
  go_wp2_with (first
    | (go_at_call 54; refine (HV.out).mono ?_; rintro e w1 ⟨rfl, hb1⟩; have HB1 := hide hb1; clear hb1)
    | (go_at_call 55; refine (HD.out _ HB1.out).mono ?_; rintro e w2 ⟨X, m, c', rfl, h1, h2, h3, h4⟩; have H1 := hide h1; have H3 := hide h3; have H4 := hide (HB1.out.trans (h4.mono HB1.out.size)); clear h1 h3 h4)
    | (go_at_call 56; refine (HE.out _ _ _ _ H4.out H1.out H3.out).mono ?_; rintro e w3 ⟨X2, c2, rfl, hc2, hI, h5⟩; have HI := hide hI; have H6 := hide (H3.out.next h5); have H5 := hide (H4.out.trans (h5.mono H4.out.size)); clear hI h5))
  go_loop [7, 22] (fun v7 v22 => ∃ (k : Nat) (y : Int), k ≤ n ∧ v22 = .int .i64 k ∧ v7 = .int .i64 y ∧ 0 ≤ y ∧ y ≤ 1000 * k ∧ Hid (y = sumT ends k)) (fun _ v => n - (intOf v).toNat)
  case atStart => exact ⟨0, 0, Nat.zero_le _, rfl, rfl, by omega, by omega, hide rfl⟩
  case round =>
    obtain ⟨k, y, hk, rfl, rfl, hy0, hy1, HY⟩ := hrel
    by_cases hlt : k < n
    · obtain ⟨b1, o1, x, rfl, hb1, hc1, hx⟩ := HI.out.at_ (k := k) (by rw [HEL.out]; exact hlt)
      have hkn : (k : Int) < (n : Int) := by omega
      have hxb := HBD.out k
      rw [hx.out] at hxb
      obtain ⟨hxb0, hxb1⟩ := hxb
      have HY2 : Hid (y + x = sumT ends (k + 1)) := by rw [sumT, ← HY.out, hx.out]; exact hide rfl
      clear hx
      go_wp2
      go_round
      case rel => exact ⟨k + 1, _, by omega, by go_num, rfl, by omega, by omega, HY2⟩
      case measure => simp [intOf] <;> omega
    · obtain rfl : n = k := by omega
      have HY2 : Hid (y = endSum L p) := by rw [HES.out]; exact HY
      have e9 := HY2.out
      subst e9
      go_wp2
      exact bodyPost_ret (v := .tuple #[.slice X m c', .int .i64 (endSum L p), .int .i64 0]) (by simp [results, Try.results17, go_sem]) rfl ⟨X, m, c', rfl, H1.out, h2, H6.out, H5.out⟩
end Go.Proofs.Ytiadineakhcclaa

/-
  The reference's plan, by rule 0.
-/
namespace Go.Proofs.Ytiadineakhcclaa
open Go.RowKit
set_option linter.unusedVariables false
set_option linter.unusedSimpArgs false

set_option maxRecDepth 100000 in
set_option maxHeartbeats 3200000 in
theorem refplanD_any (A : Option Addr) (n c : Nat) (L : List J4) (w : World) (hn : L.length = n) (hL : JobsOk L) (hA : JobsA w w.heap.size A L) :
    Calls Try.prog 57 #[.slice A n c, .int .i64 0] w fun e w' => ∃ X m c', e = .returned (.slice X m c') ∧ (planN false L).length = m ∧ m ≤ c' ∧ PcsA w' w'.heap.size X (planN false L) ∧ Below w.heap.size w w' := by
  have info_rpiece : (Try.prog.info? 36).map (fun i => (i.zero, i.size, i.bytes)) = some (some (.agg #[.int .i64 0, .int .i64 0, .int .i64 0]), 3, 24) := by kernel_rfl
  have h8 : n ≤ 8 := by rw [← hn]; exact hL.le
  have h1 : 1 ≤ n := by rw [← hn]; exact hL.pos
  have HN := hide hn
  have HL := hide hL
  have HA := hide hA
  have HTB := hide (fun i (hi : i < n) => (hL.at_ i (by rw [hn]; exact hi)))
  have HTL0 : Hid ((timesOf L).length = n) := by rw [timesOf, List.length_map]; exact hn
  clear hn hL hA
  go_enter Try.func57, Try.ntmps57
  go_wp2
  go_loopw [6, 7, 17] (fun v6 v7 v wr => ∃ (k : Nat) (X : Option Addr) (c' : Nat) (z : Int), k ≤ n ∧ v = .int .i64 k ∧ v6 = .slice X k c' ∧ k ≤ c' ∧ v7 = .int .i64 z ∧ 0 ≤ z ∧ z ≤ 20 * k ∧ Hid (z = sumT (timesOf L) k) ∧ Hid (wr.ownsRow w.heap.size 3 1 (.slice X k c') k (((timesOf L).take k).map (Value.int .i64))) ∧ Below w.heap.size w wr) (fun _ _ v _ => n - (intOf v).toNat)
  case atStart => exact ⟨0, none, 0, 0, Nat.zero_le _, rfl, rfl, Nat.le_refl _, rfl, by omega, by omega, hide rfl, hide (World.ownsRow_nil _ _ _ _), Below.refl _ _⟩
  case round =>
    obtain ⟨k, X, cl, z, hk, rfl, rfl, hkc, rfl, hz0, hz1, HZ, HO, hb⟩ := hrel
    have HB := hide hb
    by_cases hlt : k < n
    · obtain ⟨bj, oj, t, r, d, u, rfl, hbj, hc0, hc1, hc2, hc3, hx⟩ := (HA.out.below hb).at_ (k := k) (by rw [HN.out]; exact hlt)
      have hkn : (k : Int) < (n : Int) := by omega
      have htb := HTB.out k hlt
      rw [hx.out] at htb
      simp only [] at htb
      obtain ⟨ht0, ht1, _⟩ := htb
      have HT : Hid ((timesOf L).getD k 0 = t) := by rw [timesOf_getD, hx.out]; exact hide rfl
      have HTK : Hid ((timesOf L).take (k + 1) = (timesOf L).take k ++ [t]) := by
        rw [take_snoc_int _ _ (by rw [HTL0.out]; exact hlt), HT.out]; exact hide rfl
      have HBA : Hid (∀ o, Below w.heap.size w (wr.alloc o)) := fun o => HB.out.alloc HB.out.size _
      have HJC : Hid (∀ w3 : World, (wr.alloc (.cells #[.int .i64 t, .int .i64 r, .int .i64 d, .int .i64 u] 43)).grownBy w3 (Value.slice X k cl).ownBlock → w3.cell? ⟨wr.heap.size, 0, none⟩ = some (.int .i64 t)) := fun w3 hg =>
        hg.cell (a := ⟨wr.heap.size, 0, none⟩) (by rw [World.cell?_alloc_at _ _ _ _ rfl]; rfl) (fun e => by have := (own_ltS HO.out _ e.symm).2; exact absurd this (Nat.lt_irrefl _))
      clear hx hb
      go_wp2_with (at_builtin; refine wpList_app1 (w0 := wr.alloc (.cells #[.int .i64 t, .int .i64 r, .int .i64 d, .int .i64 u] 43)) _ _ 41 3 (.int .i64 0) 8 rfl rfl Try.underlying41 info_int rfl w.heap.size (.slice X k cl) k _ (.int .i64 t) rfl (by simp [Act.eval]) rfl ⟨_, rfl⟩ (HO.out.alloc _) rfl (by omega) (by omega) (HBA.out _).size ?_; intro g2 cg w3 hown1 hd1 hd2 hg1 hgl2 hgrow; have HOW1 := hide hown1; have HG := hide hgrow; have hjc := HJC.out _ hgrow; clear hown1 hgrow)
      go_roundw
      case rel =>
        refine ⟨k + 1, some ⟨g2, 0, none⟩, cg, _, by omega, by go_num, rfl, hd1, rfl, by omega, by omega, hide ?_, ?_, (HBA.out _).grown HG.out (HBA.out _).size (fun q hq => (own_ltS HO.out q hq).1)⟩
        · rw [sumT, HT.out, ← HZ.out]
        · rw [HTK.out]
          exact hide (by rw [List.map_append]; exact HOW1.out)
      case measure => simp [intOf] <;> omega
    · obtain rfl : n = k := by omega
      obtain ⟨wq, rfl⟩ : ∃ wq : World, wq = wr := ⟨_, rfl⟩
      obtain ⟨gl, cc, hX, hgl0, hcc, hcm, hglq⟩ := own_formS HO.out (by omega)
      injection hX with hX1 _ hX2
      subst hX1; subst hX2
      have HTK : Hid ((timesOf L).take n = (runP false L 0).1) := List.take_of_length_le (by rw [HTL0.out]; exact Nat.le_refl _)
      rw [HTK.out] at HO
      have HZ0 : Hid (z = sumT (runP false L 0).1 n) := HZ.out
      clear hb HZ HTK
      go_wp2
      go_loopw [5, 7, 10] (fun v5 v7 v10 w2 => ∃ (k : Nat) (X : Option Addr) (m c' : Nat) (y : Int), k ≤ 300 ∧ v10 = .int .i64 k ∧ v5 = .slice X m c' ∧ m ≤ c' ∧ v7 = .int .i64 y ∧ Hid (y = sumT (runP false L k).1 n) ∧ Hid ((runP false L k).2.length = m) ∧ Hid (w2.ownsRow w.heap.size 3 1 (.slice (some ⟨gl, 0, none⟩) n cl) n ((runP false L k).1.map (Value.int .i64))) ∧
          Hid (w2.ownsRow wq.heap.size 36 3 (.slice X m c') m (pcells (runP false L k).2)) ∧ Below w.heap.size w w2 ∧ Hid (wq.heap.size ≤ w2.heap.size)) (fun _ _ v10 _ => 300 - (intOf v10).toNat)
      case atStart => exact ⟨0, none, 0, 0, z, by omega, rfl, rfl, Nat.le_refl _, rfl, HZ0, hide rfl, HO, hide (World.ownsRow_nil _ _ _ _), HB.out, hide (Nat.le_refl _)⟩
      case round =>
        obtain ⟨k, X, m, c', y, hk, rfl, rfl, hmc, rfl, HSY, HM, HT, HO2, hb2, HWQ⟩ := hrel
        obtain ⟨w2, rfl⟩ : ∃ w2 : World, w2 = wr := ⟨_, rfl⟩
        have HB2 := hide hb2
        have HOK := hide (runP_ok false HL.out k)
        have HZE := hide (fun h => runP_end (sh := false) (k := k) HL.out h)
        have HZ3 := hide (fun h => runP_300 (sh := false) (k := k) HL.out h)
        obtain ⟨s, hs⟩ : ∃ s, runP false L k = s := ⟨_, rfl⟩
        have HSN : Hid (runP false L (k + 1) = stepP false L k s) := by rw [← hs]; rfl
        rw [hs] at HM HT HO2 HOK HZE HZ3 HSY
        clear hs
        obtain ⟨t, out⟩ := s
        have HTL : Hid (t.length = n) := by rw [← HN.out]; exact HOK.out.len
        have HTB2 : Hid (∀ i, i < n → 0 ≤ t.getD i 0 ∧ t.getD i 0 ≤ 20) := fun i hi => by
          have h1 := HOK.out.bd i (by rw [HN.out]; exact hi)
          have h2 := HTB.out i hi
          simp only [] at h1
          omega
        have HIT : Hid (IntsA w2 w2.heap.size (some ⟨gl, 0, none⟩) t) := ints_of_own HT.out
        have hyb : 0 ≤ y ∧ y ≤ 160 := by
          have e := HSY.out
          simp only [] at e
          have h1 := sumT_nonneg (t := t) (n := n) (fun i hi => (HTB2.out i hi).1) n (Nat.le_refl _)
          have h2 := sumT_le (t := t) (n := n) (m := 20) (fun i hi => (HTB2.out i hi).2) n (Nat.le_refl _)
          omega
        obtain ⟨hy0, hy1⟩ := hyb
        have HSZ := hide (sumT_z HTL.out (fun i hi => (HTB2.out i hi).1))
        clear hb2
        by_cases hz : AllZ t
        · have hd : decide (0 < y) = false := decide_eq_false (fun h => by have e := HSY.out; simp only [] at e; have := HSZ.out.2 hz; omega)
          have HE : Hid (out = planN false L) := HZE.out hz
          have HPO := hide (pcs_of_own HO2.out)
          clear hz
          go_wp2
          go_ret
          exact ⟨X, m, c', rfl, by rw [← HE.out]; exact HM.out, hmc, by rw [← HE.out]; exact HPO.out, HB2.out⟩
        · have hyp : 0 < y := Classical.byContradiction fun h => hz (HSZ.out.1 (by have e := HSY.out; simp only [] at e; omega))
          have hd : decide (0 < y) = true := decide_eq_true hyp
          have hk3 : k < 300 := Nat.lt_of_not_le fun h => hz (HZ3.out h)
          clear hz
          go_wp2
          go_loopw [11, 37] (fun v10 v37 w3 => ∃ (i : Nat) (z : Int), i ≤ n ∧ v37 = .int .i64 i ∧ v10 = .int .i64 z ∧ -1 ≤ z ∧ z < i ∧ Hid (z = pkTo false L t k i) ∧ Below w2.heap.size w2 w3) (fun _ v37 _ => n - (intOf v37).toNat)
          case atStart => exact ⟨0, -1, Nat.zero_le _, rfl, rfl, by omega, by omega, hide rfl, Below.refl _ _⟩
          case round =>
            obtain ⟨i, z, hi, rfl, rfl, hz0, hz1, HZ, hb3⟩ := hrel
            obtain ⟨w3, rfl⟩ : ∃ w3 : World, w3 = wr := ⟨_, rfl⟩
            have HB3 := hide hb3
            have HW3 := hide (HB2.out.trans (hb3.mono HB2.out.size))
            by_cases hlt : i < n
            · obtain ⟨bj, oj, t', r, d, u, rfl, hbj, hc0, hc1, hc2, hc3, hx⟩ := ((HA.out.below HW3.out).more (Nat.le_trans HB2.out.size HB3.out.size)).at_ (k := i) (by rw [HN.out]; exact hlt)
              have hin : (i : Int) < (n : Int) := by omega
              obtain ⟨bt, ot, ti, e1, hbt, hci, hti⟩ := (HIT.out.next hb3).at_ (k := i) (by rw [HTL.out]; exact hlt)
              injection e1 with e1; injection e1 with e2 e3
              subst e2; subst e3
              rw [Nat.zero_add] at hci
              have htib := HTB2.out i hlt
              rw [hti.out] at htib
              obtain ⟨htib0, htib1⟩ := htib
              have HX := hide hx.out
              have HTI := hide hti.out
              clear hx hti hb3
              have HBW : Hid (∀ o, Below w2.heap.size w2 (w3.alloc o)) := fun o => HB3.out.alloc HB3.out.size _
              have HBWD : Hid (∀ o q, Below w2.heap.size w2 ((w3.alloc o).drewN q)) := fun o q => below_drewN (HBW.out o) q
              by_cases hr : r ≤ (k : Int)
              · by_cases ht0 : 0 < ti
                · have d1 : decide ((k : Int) < r) = false := decide_eq_false (by omega)
                  have d2 : (ti == 0) = false := by simp; omega
                  by_cases hz : z < 0
                  · have d3 : decide (z < 0) = true := decide_eq_true hz
                    have HNX : Hid ((i : Int) = pkTo false L t k (i + 1)) := by rw [pkTo, if_pos ⟨by rw [HX.out]; exact hr, by rw [HTI.out]; exact ht0, .inl (by rw [← HZ.out]; exact hz)⟩]; exact hide rfl
                    go_wp2
                    go_quiet (fail)
                    go_wp2
                    go_roundw
                    case rel => exact ⟨i + 1, (i : Int), by omega, by go_num, rfl, by omega, by omega, HNX, HBWD.out _ _⟩
                    case measure => simp [intOf] <;> omega
                  · have d3 : decide (z < 0) = false := decide_eq_false hz
                    obtain ⟨g, rfl⟩ : ∃ g : Nat, z = g := ⟨z.toNat, by omega⟩
                    have hgi : (g : Int) < (n : Int) := by omega
                    obtain ⟨bj2, oj2, t2, r2, dg, u2, e1, hbj2, hg0, hg1, hg2, hg3, hxg⟩ := ((HA.out.below HW3.out).more (Nat.le_trans HB2.out.size HB3.out.size)).at_ (k := g) (by rw [HN.out]; omega)
                    injection e1 with e1; injection e1 with e2 e3
                    subst e2; subst e3
                    obtain ⟨bt, ot, tg, e1, hbt2, hcg, htg⟩ := (HIT.out.next HB3.out).at_ (k := g) (by rw [HTL.out]; omega)
                    injection e1 with e1; injection e1 with e2 e3
                    subst e2; subst e3
                    rw [Nat.zero_add] at hcg
                    have HKEY : Hid (keyP false L t i < keyP false L t g ↔ d < dg) := by
                      unfold keyP; rw [if_neg (by simp), if_neg (by simp), HX.out, hxg.out]; exact Iff.rfl
                    clear hxg htg
                    by_cases hq : d < dg
                    · have dq : decide (d < dg) = true := decide_eq_true hq
                      have HNX : Hid ((i : Int) = pkTo false L t k (i + 1)) := by
                        rw [pkTo, ← HZ.out, if_pos ⟨by rw [HX.out]; exact hr, by rw [HTI.out]; exact ht0, .inr (HKEY.out.2 hq)⟩]; exact hide rfl
                      go_wp2
                      go_quiet (fail)
                      go_wp2
                      go_roundw
                      case rel => exact ⟨i + 1, (i : Int), by omega, by go_num, rfl, by omega, by omega, HNX, HBWD.out _ _⟩
                      case measure => simp [intOf] <;> omega
                    · have dq : decide (d < dg) = false := decide_eq_false hq
                      have HNX : Hid ((g : Int) = pkTo false L t k (i + 1)) := by
                        rw [pkTo, ← HZ.out, if_neg (fun h => by rcases h.2.2 with h | h; exact hz h; exact hq (HKEY.out.1 h))]; exact hide rfl
                      go_wp2
                      go_quiet (fail)
                      go_wp2
                      go_roundw
                      case rel => exact ⟨i + 1, (g : Int), by omega, by go_num, rfl, by omega, by omega, HNX, HBWD.out _ _⟩
                      case measure => simp [intOf] <;> omega
                · have d1 : decide ((k : Int) < r) = false := decide_eq_false (by omega)
                  have HNX : Hid (z = pkTo false L t k (i + 1)) := by rw [pkTo, if_neg (fun h => ht0 (by rw [← HTI.out]; exact h.2.1))]; exact HZ.out
                  obtain rfl : ti = 0 := by omega
                  clear ht0
                  go_wp2
                  go_roundw
                  case rel => exact ⟨i + 1, z, by omega, by go_num, rfl, by omega, by omega, HNX, HBW.out _⟩
                  case measure => simp [intOf] <;> omega
              · have d1 : decide ((k : Int) < r) = true := decide_eq_true (by omega)
                have HNX : Hid (z = pkTo false L t k (i + 1)) := by rw [pkTo, if_neg (fun h => hr (by have := h.1; rw [HX.out] at this; exact this))]; exact HZ.out
                go_wp2
                go_roundw
                case rel => exact ⟨i + 1, z, by omega, by go_num, rfl, by omega, by omega, HNX, HBW.out _⟩
                case measure => simp [intOf] <;> omega
            · obtain rfl : n = i := by omega
              have HPK : Hid (z = pk false L t k) := by rw [pk, HN.out]; exact HZ.out
              have HR3 := hide (own_keepS HT.out (fun g hg => HB3.out.block g (own_ltS HT.out g hg).2))
              have HO3 := hide (own_keepS HO2.out (fun g hg => HB3.out.block g (own_ltS HO2.out g hg).2))
              by_cases hz : z < 0
              · have d3 : decide (z < 0) = true := decide_eq_true hz
                have HST : Hid (runP false L (k + 1) = (t, out)) := by rw [HSN.out, stepP]; simp only []; rw [← HPK.out, if_pos hz]; exact hide rfl
                clear hb3
                go_wp2
                go_roundw
                case rel => exact ⟨k + 1, X, m, c', y, by omega, by go_num, rfl, hmc, rfl, by rw [HST.out]; exact HSY, by rw [HST.out]; exact HM, by rw [HST.out]; exact HR3, by rw [HST.out]; exact HO3, HW3.out, hide (Nat.le_trans HWQ.out HB3.out.size)⟩
                case measure => simp [intOf] <;> omega
              · have d3 : decide (z < 0) = false := decide_eq_false hz
                obtain ⟨g, rfl⟩ : ∃ g : Nat, z = g := ⟨z.toNat, by omega⟩
                have hgn : g < n := by omega
                have hgi : (g : Int) < (n : Int) := by omega
                obtain ⟨tg, htg⟩ : ∃ tg, t.getD g 0 = tg := ⟨_, rfl⟩
                have HST : Hid (runP false L (k + 1) = (t.set g (tg - 1), addP out g k)) := by rw [HSN.out, stepP]; simp only []; rw [← HPK.out, if_neg hz, Int.toNat_natCast, htg]; exact hide rfl
                have HSU : Hid (y - 1 = sumT (t.set g (tg - 1)) n) := by rw [sumT_set (by rw [HTL.out]; exact hgn), if_pos hgn, ← HSY.out, htg]; exact hide (by omega)
                have hcg : w3.cell? ⟨gl, g, none⟩ = some (.int .i64 tg) := own_cell HR3.out (by rw [List.getElem?_map, List.getElem?_eq_getElem (by rw [HTL.out]; exact hgn), getD_cons_of (d := 0) (by rw [HTL.out]; exact hgn), htg]; rfl)
                have hfg : w3.frozen? ⟨gl, g, none⟩ = false := own_free HR3.out g
                have hs3 : gl < w3.heap.size := (own_ltS HR3.out gl rfl).2
                have HQS : Hid (w.heap.size ≤ wq.heap.size) := hide HB.out.size
                have HQ3 : Hid (wq.heap.size ≤ w3.heap.size) := hide (Nat.le_trans HWQ.out HB3.out.size)
                have HR4 : Hid ((w3.setCell ⟨gl, g, none⟩ (.int .i64 (tg - 1))).ownsRow w.heap.size 3 1 (.slice (some ⟨gl, 0, none⟩) n cl) n ((t.set g (tg - 1)).map (Value.int .i64))) := by
                  rw [List.map_set]; exact hide (own_set HR3.out (by omega) _)
                have HO4 := hide (own_farS (b' := gl) (i := g) HO3.out (fun x hx h => by have := (own_ltS HO3.out x hx).1; omega) (.int .i64 (tg - 1)))
                have htb := HTB2.out g hgn
                rw [htg] at htb
                obtain ⟨htb0, htb1⟩ := htb
                have HTG := hide htg
                have HB4 : Hid (Below w.heap.size w (w3.setCell ⟨gl, g, none⟩ (.int .i64 (tg - 1)))) := HW3.out.setCell (show w.heap.size ≤ gl from hgl0) _
                have hmk : m ≤ 300 := by have := HOK.out.num; have := HM.out; simp only [] at *; omega
                have HSZ4 : Hid (wq.heap.size ≤ (w3.setCell ⟨gl, g, none⟩ (.int .i64 (tg - 1))).heap.size) := by simp; exact HQ3
                have hone : ∀ u ∈ [Value.int .i64 (g : Nat), .int .i64 (k : Nat), .int .i64 ((k : Int) + 1)], u.oneCell' = true := by intro u hu; simp at hu; rcases hu with rfl | rfl | rfl <;> rfl
                clear htg hb3
                by_cases hm0 : m = 0
                · subst hm0
                  have HAD : Hid (addP out g k = out ++ [⟨g, k, k + 1⟩]) := by rw [addP, if_neg (fun h => by have := HM.out; omega)]; exact hide rfl
                  go_wp2_with (at_builtin; refine wpList_appS (w0 := w3.setCell ⟨gl, g, none⟩ (.int .i64 (tg - 1))) _ _ 31 36 (.agg #[.int .i64 0, .int .i64 0, .int .i64 0]) 3 24 rfl rfl Try.underlying31 info_rpiece rfl (by decide) wq.heap.size (.slice X 0 c') 0 (pcells out) [.int .i64 (g : Nat), .int .i64 (k : Nat), .int .i64 ((k : Int) + 1)] rfl rfl (by simp [Act.eval]) rfl ⟨_, rfl⟩ HO4.out hone (by omega) (by omega) HSZ4.out ?_; intro ga cg w7 hown1 hd1 hd2 hg1 hgl2 hgrow; have HOW7 := hide hown1; have HG := hide hgrow; clear hown1 hgrow)
                  go_roundw
                  case rel =>
                    refine ⟨k + 1, some ⟨ga, 0, none⟩, 0 + 1, cg, _, by omega, by go_num, rfl, hd1, rfl, ?_, ?_, ?_, ?_, HB4.out.grown HG.out HB4.out.size (fun x hx => by have := (own_ltS HO4.out x hx).1; have := HQS.out; omega), hide (Nat.le_trans HSZ4.out HG.out.size)⟩
                    · rw [HST.out]; exact HSU
                    · rw [HST.out, HAD.out]; exact hide (by rw [List.length_append, HM.out]; rfl)
                    · rw [HST.out]; exact hide (own_keepS HR4.out (fun x hx => HG.out.block _ (own_ltS HR4.out x hx).2 (fun e => by have h1 := (own_ltS HO4.out _ e.symm).1; have h2 := hglq; have := own_blk hx; omega)))
                    · rw [HST.out, HAD.out, pcells_snoc]; exact HOW7
                  case measure => simp [intOf] <;> omega
                · obtain ⟨q, rfl⟩ : ∃ q, m = q + 1 := ⟨m - 1, by omega⟩
                  obtain ⟨g2, cc, hX, hg2, hcc2, hcm2, hg2l⟩ := own_formS HO3.out (by omega)
                  injection hX with hX1 _ hX2
                  subst hX1; subst hX2
                  have hql : q < out.length := by rw [HM.out]; omega
                  obtain ⟨jo, fo, to, hp⟩ : ∃ jo fo to, out.getD q p0 = ⟨jo, fo, to⟩ := ⟨_, _, _, rfl⟩
                  have hca := pcells_at out q hql
                  rw [hp] at hca
                  have y0 := own_cell HO4.out hca.1
                  have y2 := own_cell HO4.out hca.2.2
                  have f2 := own_free HO4.out (q * 3 + 2)
                  have HPQ := hide hp
                  have HS4 := hide (own_set HO4.out (i := q * 3 + 2) (by omega) (.int .i64 (to + 1)))
                  have hto : 0 ≤ to ∧ to ≤ 300 := by have h := HOK.out.pc q hql; simp only [] at h; rw [hp] at h; simp only [] at h; omega
                  obtain ⟨hto0, hto1⟩ := hto
                  have hgne : g2 ≠ gl := by omega
                  have hqi : ((q : Int) + 1) - 1 = q := by omega
                  have hql2 : (q : Int) < (q : Int) + 1 := by omega
                  clear hp hca hql
                  by_cases hjo : jo = (g : Int)
                  · by_cases hto2 : to = (k : Int)
                    · have e1 : (jo == (g : Int)) = true := by simp [hjo]
                      have e2 : (to == (k : Int)) = true := by simp [hto2]
                      have HAD : Hid (addP out g k = out.set q ⟨jo, fo, to + 1⟩) := by
                        rw [addP, HM.out, show q + 1 - 1 = q by omega, HPQ.out, if_pos ⟨by omega, hjo, hto2⟩, hto2]; exact hide rfl
                      clear hjo hto2
                      go_wp2
                      go_roundw
                      case rel =>
                        refine ⟨k + 1, some ⟨g2, 0, none⟩, q + 1, _, _, by omega, by go_num, rfl, hmc, rfl, ?_, ?_, ?_, ?_, HB4.out.setCell (show w.heap.size ≤ g2 by have := HQS.out; omega) _, by simp; exact HQ3⟩
                        · rw [HST.out]; exact HSU
                        · rw [HST.out, HAD.out]; exact hide (by rw [List.length_set]; exact HM.out)
                        · rw [HST.out]; exact hide (own_farS HR4.out (fun x hx e => hgne (by have := own_blk hx; omega)) _)
                        · rw [HST.out, HAD.out]
                          have e9 := pcells_set2 out q (to + 1) (by rw [HM.out]; omega)
                          rw [HPQ.out] at e9
                          rw [← e9]; exact HS4
                      case measure => simp [intOf] <;> omega
                    · have e1 : (jo == (g : Int)) = true := by simp [hjo]
                      have e2 : (to == (k : Int)) = false := by simp [hto2]
                      have HAD : Hid (addP out g k = out ++ [⟨g, k, k + 1⟩]) := by rw [addP, HM.out, show q + 1 - 1 = q by omega, HPQ.out, if_neg (fun h => hto2 h.2.2)]; exact hide rfl
                      clear hjo hto2
                      go_wp2_with (at_builtin; refine wpList_appS (w0 := w3.setCell ⟨gl, g, none⟩ (.int .i64 (tg - 1))) _ _ 31 36 (.agg #[.int .i64 0, .int .i64 0, .int .i64 0]) 3 24 rfl rfl Try.underlying31 info_rpiece rfl (by decide) wq.heap.size (.slice (some ⟨g2, 0, none⟩) (q + 1) c') (q + 1) (pcells out) [.int .i64 (g : Nat), .int .i64 (k : Nat), .int .i64 ((k : Int) + 1)] rfl rfl (by simp [Act.eval]) rfl ⟨_, rfl⟩ HO4.out hone (by omega) (by omega) HSZ4.out ?_; intro ga cg w7 hown1 hd1 hd2 hg1 hgl2 hgrow; have HOW7 := hide hown1; have HG := hide hgrow; clear hown1 hgrow)
                      go_roundw
                      case rel =>
                        refine ⟨k + 1, some ⟨ga, 0, none⟩, (q + 1) + 1, cg, _, by omega, by go_num, rfl, hd1, rfl, ?_, ?_, ?_, ?_, HB4.out.grown HG.out HB4.out.size (fun x hx => by have := (own_ltS HO4.out x hx).1; have := HQS.out; omega), hide (Nat.le_trans HSZ4.out HG.out.size)⟩
                        · rw [HST.out]; exact HSU
                        · rw [HST.out, HAD.out]; exact hide (by rw [List.length_append, HM.out]; rfl)
                        · rw [HST.out]; exact hide (own_keepS HR4.out (fun x hx => HG.out.block _ (own_ltS HR4.out x hx).2 (fun e => by have h1 := (own_ltS HO4.out _ e.symm).1; have h2 := hglq; have := own_blk hx; omega)))
                        · rw [HST.out, HAD.out, pcells_snoc]; exact HOW7
                      case measure => simp [intOf] <;> omega
                  · have e1 : (jo == (g : Int)) = false := by simp [hjo]
                    have HAD : Hid (addP out g k = out ++ [⟨g, k, k + 1⟩]) := by rw [addP, HM.out, show q + 1 - 1 = q by omega, HPQ.out, if_neg (fun h => hjo h.2.1)]; exact hide rfl
                    clear hjo
                    go_wp2_with (at_builtin; refine wpList_appS (w0 := w3.setCell ⟨gl, g, none⟩ (.int .i64 (tg - 1))) _ _ 31 36 (.agg #[.int .i64 0, .int .i64 0, .int .i64 0]) 3 24 rfl rfl Try.underlying31 info_rpiece rfl (by decide) wq.heap.size (.slice (some ⟨g2, 0, none⟩) (q + 1) c') (q + 1) (pcells out) [.int .i64 (g : Nat), .int .i64 (k : Nat), .int .i64 ((k : Int) + 1)] rfl rfl (by simp [Act.eval]) rfl ⟨_, rfl⟩ HO4.out hone (by omega) (by omega) HSZ4.out ?_; intro ga cg w7 hown1 hd1 hd2 hg1 hgl2 hgrow; have HOW7 := hide hown1; have HG := hide hgrow; clear hown1 hgrow)
                    go_roundw
                    case rel =>
                      refine ⟨k + 1, some ⟨ga, 0, none⟩, (q + 1) + 1, cg, _, by omega, by go_num, rfl, hd1, rfl, ?_, ?_, ?_, ?_, HB4.out.grown HG.out HB4.out.size (fun x hx => by have := (own_ltS HO4.out x hx).1; have := HQS.out; omega), hide (Nat.le_trans HSZ4.out HG.out.size)⟩
                      · rw [HST.out]; exact HSU
                      · rw [HST.out, HAD.out]; exact hide (by rw [List.length_append, HM.out]; rfl)
                      · rw [HST.out]; exact hide (own_keepS HR4.out (fun x hx => HG.out.block _ (own_ltS HR4.out x hx).2 (fun e => by have h1 := (own_ltS HO4.out _ e.symm).1; have h2 := hglq; have := own_blk hx; omega)))
                      · rw [HST.out, HAD.out, pcells_snoc]; exact HOW7
                    case measure => simp [intOf] <;> omega
end Go.Proofs.Ytiadineakhcclaa
