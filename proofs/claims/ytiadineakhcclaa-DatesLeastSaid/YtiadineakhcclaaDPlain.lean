/-
  Plain: jobs, the plan unit by unit, pieces, ends. No program in sight.
-/
import Derived.Test.YtiadineakhcclaaBase
namespace Go.Proofs.Ytiadineakhcclaa
set_option linter.unusedVariables false
set_option linter.unusedSimpArgs false

structure J4 where
  t : Int
  r : Int
  d : Int
  w : Int
def j0 : J4 := ⟨0, 0, 0, 0⟩
structure P3 where
  job : Int
  fr : Int
  to : Int
def p0 : P3 := ⟨0, 0, 0⟩

def jobB (j : J4) : Bool := decide (1 ≤ j.t ∧ j.t ≤ 20 ∧ 0 ≤ j.r ∧ j.r ≤ 100 ∧ 0 ≤ j.d ∧ j.d ≤ 200 ∧ 0 ≤ j.w ∧ j.w ≤ 20)
def jobsB (L : List J4) : Bool := decide (1 ≤ L.length ∧ L.length ≤ 8) && L.all jobB
structure JobsOk (L : List J4) : Prop where
  pos : 1 ≤ L.length
  le : L.length ≤ 8
  at_ : ∀ i, i < L.length → 1 ≤ (L.getD i j0).t ∧ (L.getD i j0).t ≤ 20 ∧ 0 ≤ (L.getD i j0).r ∧ (L.getD i j0).r ≤ 100 ∧ 0 ≤ (L.getD i j0).d ∧ (L.getD i j0).d ≤ 200 ∧ 0 ≤ (L.getD i j0).w ∧ (L.getD i j0).w ≤ 20
theorem getD_cons_of {α : Type} {l : List α} {i : Nat} {d : α} (h : i < l.length) : l[i] = l.getD i d := by rw [List.getD_eq_getElem?_getD, List.getElem?_eq_getElem h]; rfl
theorem jobsB_iff {L : List J4} : jobsB L = true ↔ JobsOk L := by
  rw [jobsB, Bool.and_eq_true, decide_eq_true_eq, List.all_eq_true]
  constructor
  · rintro ⟨⟨h1, h2⟩, h3⟩
    exact ⟨h1, h2, fun i hi => of_decide_eq_true (h3 _ (getD_mem hi))⟩
  · intro h
    refine ⟨⟨h.pos, h.le⟩, fun x hx => ?_⟩
    obtain ⟨i, hi, rfl⟩ := List.getElem_of_mem hx
    rw [getD_cons_of (d := j0) hi]
    exact decide_eq_true (h.at_ i hi)
theorem jobsB_take (L : List J4) : jobsB (L.take 10) = jobsB L := by
  by_cases h : L.length ≤ 10
  · rw [List.take_of_length_le h]
  · have h1 : jobsB L = false := by
      rw [jobsB, show decide (1 ≤ L.length ∧ L.length ≤ 8) = false from decide_eq_false (by omega)]; rfl
    have h2 : jobsB (L.take 10) = false := by
      rw [jobsB, show decide (1 ≤ (L.take 10).length ∧ (L.take 10).length ≤ 8) = false from decide_eq_false (by rw [List.length_take]; omega)]; rfl
    rw [h1, h2]
theorem JobsOk.take {L : List J4} (h : JobsOk L) : L.take 10 = L := List.take_of_length_le (by have := h.le; omega)

/-! The plan. -/
def keyP (sh : Bool) (L : List J4) (t : List Int) (i : Nat) : Int := if sh then t.getD i 0 else (L.getD i j0).d
def pkTo (sh : Bool) (L : List J4) (t : List Int) (a : Int) : Nat → Int
  | 0 => -1
  | k + 1 => if (L.getD k j0).r ≤ a ∧ 0 < t.getD k 0 ∧ (pkTo sh L t a k < 0 ∨ keyP sh L t k < keyP sh L t (pkTo sh L t a k).toNat) then (k : Int) else pkTo sh L t a k
def pk (sh : Bool) (L : List J4) (t : List Int) (a : Int) : Int := pkTo sh L t a L.length
theorem pkTo_bd (sh : Bool) (L : List J4) (t : List Int) (a : Int) (k : Nat) : -1 ≤ pkTo sh L t a k ∧ pkTo sh L t a k < k := by
  induction k with
  | zero => exact ⟨by simp [pkTo], by simp [pkTo]⟩
  | succ k ih => rw [pkTo]; split <;> omega
def avail (L : List J4) (t : List Int) (a : Int) (i : Nat) : Prop := (L.getD i j0).r ≤ a ∧ 0 < t.getD i 0
theorem pkTo_spec (sh : Bool) (L : List J4) (t : List Int) (a : Int) (k : Nat) :
    (pkTo sh L t a k = -1 ∧ ∀ i, i < k → ¬ avail L t a i) ∨
    ∃ i, i < k ∧ pkTo sh L t a k = (i : Int) ∧ avail L t a i ∧ ∀ j, j < k → avail L t a j → keyP sh L t i ≤ keyP sh L t j ∧ (j < i → keyP sh L t i < keyP sh L t j) := by
  induction k with
  | zero => exact .inl ⟨rfl, fun i hi => absurd hi (by omega)⟩
  | succ k ih =>
    rw [pkTo]
    rcases ih with ⟨e, hno⟩ | ⟨i, hi, e, hav, hmin⟩
    · rw [e]
      by_cases hc : avail L t a k
      · rw [if_pos ⟨hc.1, hc.2, .inl (by omega)⟩]
        refine .inr ⟨k, by omega, rfl, hc, fun j hj hj2 => ?_⟩
        by_cases e2 : j = k
        · subst e2; exact ⟨Int.le_refl _, fun h => absurd h (by omega)⟩
        · exact absurd hj2 (hno j (by omega))
      · rw [if_neg (fun h => hc ⟨h.1, h.2.1⟩)]
        refine .inl ⟨rfl, fun j hj => ?_⟩
        by_cases e2 : j = k
        · subst e2; exact hc
        · exact hno j (by omega)
    · rw [e, Int.toNat_natCast]
      by_cases hc : avail L t a k ∧ keyP sh L t k < keyP sh L t i
      · rw [if_pos ⟨hc.1.1, hc.1.2, .inr hc.2⟩]
        refine .inr ⟨k, by omega, rfl, hc.1, fun j hj hj2 => ?_⟩
        by_cases e2 : j = k
        · subst e2; exact ⟨Int.le_refl _, fun h => absurd h (by omega)⟩
        · have := hmin j (by omega) hj2
          exact ⟨by omega, fun _ => by omega⟩
      · rw [if_neg (fun h => hc ⟨⟨h.1, h.2.1⟩, by rcases h.2.2 with h | h <;> omega⟩)]
        refine .inr ⟨i, by omega, rfl, hav, fun j hj hj2 => ?_⟩
        by_cases e2 : j = k
        · subst e2
          have : ¬ keyP sh L t j < keyP sh L t i := fun h => hc ⟨hj2, h⟩
          exact ⟨by omega, fun h => absurd h (by omega)⟩
        · exact hmin j (by omega) hj2
theorem pk_spec (sh : Bool) (L : List J4) (t : List Int) (a : Int) :
    (pk sh L t a = -1 ∧ ∀ i, i < L.length → ¬ avail L t a i) ∨
    ∃ i, i < L.length ∧ pk sh L t a = (i : Int) ∧ avail L t a i ∧ ∀ j, j < L.length → avail L t a j → keyP sh L t i ≤ keyP sh L t j ∧ (j < i → keyP sh L t i < keyP sh L t j) := pkTo_spec sh L t a L.length

def addP (out : List P3) (now a : Int) : List P3 :=
  if 0 < out.length ∧ (out.getD (out.length - 1) p0).job = now ∧ (out.getD (out.length - 1) p0).to = a then out.set (out.length - 1) ⟨(out.getD (out.length - 1) p0).job, (out.getD (out.length - 1) p0).fr, a + 1⟩
  else out ++ [⟨now, a, a + 1⟩]
def stepP (sh : Bool) (L : List J4) (a : Int) (s : List Int × List P3) : List Int × List P3 :=
  if pk sh L s.1 a < 0 then s else (s.1.set (pk sh L s.1 a).toNat (s.1.getD (pk sh L s.1 a).toNat 0 - 1), addP s.2 (pk sh L s.1 a) a)
def timesOf (L : List J4) : List Int := L.map J4.t
def runP (sh : Bool) (L : List J4) : Nat → List Int × List P3
  | 0 => (timesOf L, [])
  | k + 1 => stepP sh L k (runP sh L k)
def planN (sh : Bool) (L : List J4) : List P3 := (runP sh L 300).2

theorem timesOf_getD (L : List J4) (i : Nat) : (timesOf L).getD i 0 = (L.getD i j0).t := by
  rw [timesOf, List.getD_eq_getElem?_getD, List.getElem?_map, List.getD_eq_getElem?_getD]
  cases L[i]? <;> rfl
theorem getD_set_i {α : Type} (l : List α) (i j : Nat) (x d : α) (hi : i < l.length) : (l.set i x).getD j d = if j = i then x else l.getD j d := by
  rw [List.getD_eq_getElem?_getD, List.getElem?_set, List.getD_eq_getElem?_getD]
  by_cases e : i = j
  · subst e; rw [if_pos rfl, if_pos hi, if_pos rfl]; rfl
  · rw [if_neg e, if_neg (fun h => e h.symm)]

structure RunOk (L : List J4) (k : Nat) (s : List Int × List P3) : Prop where
  len : s.1.length = L.length
  bd : ∀ i, i < L.length → 0 ≤ s.1.getD i 0 ∧ s.1.getD i 0 ≤ (L.getD i j0).t
  num : s.2.length ≤ k
  pc : ∀ q, q < s.2.length → 0 ≤ (s.2.getD q p0).job ∧ (s.2.getD q p0).job < L.length ∧ 0 ≤ (s.2.getD q p0).fr ∧ (s.2.getD q p0).fr < (s.2.getD q p0).to ∧ (s.2.getD q p0).to ≤ k
theorem addP_len (out : List P3) (now a : Int) : (addP out now a).length ≤ out.length + 1 := by
  rw [addP]; split
  · rw [List.length_set]; omega
  · simp
theorem addP_pc {out : List P3} {now : Int} {n k : Nat} (h0 : 0 ≤ now) (h1 : now < n)
    (h : ∀ q, q < out.length → 0 ≤ (out.getD q p0).job ∧ (out.getD q p0).job < n ∧ 0 ≤ (out.getD q p0).fr ∧ (out.getD q p0).fr < (out.getD q p0).to ∧ (out.getD q p0).to ≤ k) :
    ∀ q, q < (addP out now k).length → 0 ≤ ((addP out now k).getD q p0).job ∧ ((addP out now k).getD q p0).job < n ∧ 0 ≤ ((addP out now k).getD q p0).fr ∧ ((addP out now k).getD q p0).fr < ((addP out now k).getD q p0).to ∧ ((addP out now k).getD q p0).to ≤ (k + 1 : Nat) := by
  intro q hq
  rw [addP] at hq ⊢
  split at hq
  · rename_i hc
    rw [if_pos hc]
    rw [List.length_set] at hq
    rw [getD_set_i _ _ _ _ _ (by omega)]
    split
    · have h2 := h (out.length - 1) (by omega)
      have h3 := hc.2.2
      refine ⟨h2.1, h2.2.1, h2.2.2.1, ?_, ?_⟩ <;> (simp only []; omega)
    · have h2 := h q hq
      omega
  · rename_i hc
    rw [if_neg hc]
    rw [List.length_append, List.length_singleton] at hq
    rw [List.getD_eq_getElem?_getD]
    by_cases e : q < out.length
    · rw [List.getElem?_append_left e, ← List.getD_eq_getElem?_getD]
      have h2 := h q e
      omega
    · obtain rfl : q = out.length := by omega
      rw [List.getElem?_append_right (Nat.le_refl _), Nat.sub_self]
      show 0 ≤ now ∧ now < n ∧ 0 ≤ (k : Int) ∧ (k : Int) < (k : Int) + 1 ∧ (k : Int) + 1 ≤ ((k + 1 : Nat) : Int)
      omega
theorem stepP_ok {sh : Bool} {L : List J4} {k : Nat} {s : List Int × List P3} (h : RunOk L k s) : RunOk L (k + 1) (stepP sh L k s) := by
  rw [stepP]
  rcases pk_spec sh L s.1 k with ⟨e, _⟩ | ⟨i, hi, e, hav, _⟩
  · rw [e, if_pos (by omega)]
    exact ⟨h.len, h.bd, by have := h.num; omega, fun q hq => by have := h.pc q hq; omega⟩
  · rw [e, if_neg (by omega), Int.toNat_natCast]
    refine ⟨by rw [List.length_set]; exact h.len, fun j hj => ?_, by have := addP_len s.2 (i : Int) k; have := h.num; simp only []; omega, addP_pc (by omega) (by omega) h.pc⟩
    rw [getD_set_i _ _ _ _ _ (by rw [h.len]; exact hi)]
    have h1 := h.bd j hj
    split
    · rename_i e2; subst e2; have := hav.2; omega
    · exact h1
theorem runP_ok (sh : Bool) {L : List J4} (hL : JobsOk L) : ∀ k, RunOk L k (runP sh L k)
  | 0 => ⟨by simp [runP, timesOf], fun i hi => by show 0 ≤ (timesOf L).getD i 0 ∧ (timesOf L).getD i 0 ≤ _; rw [timesOf_getD]; have := hL.at_ i hi; exact ⟨by omega, Int.le_refl _⟩, by simp [runP], fun q hq => absurd hq (by simp [runP])⟩
  | k + 1 => stepP_ok (runP_ok sh hL k)

/-! The end of the plan. -/
def AllZ (t : List Int) : Prop := ∀ i, i < t.length → t.getD i 0 ≤ 0
def sumT (t : List Int) : Nat → Int
  | 0 => 0
  | k + 1 => sumT t k + t.getD k 0
theorem sumT_set {t : List Int} {i : Nat} (hi : i < t.length) (x : Int) : ∀ k, sumT (t.set i x) k = sumT t k + if i < k then x - t.getD i 0 else 0
  | 0 => by simp [sumT]
  | k + 1 => by
    rw [sumT, sumT, sumT_set hi x k, getD_set_i _ _ _ _ _ hi]
    by_cases e : k = i
    · subst e; rw [if_pos rfl, if_neg (by omega), if_pos (by omega)]; omega
    · rw [if_neg e]
      by_cases e2 : i < k
      · rw [if_pos e2, if_pos (by omega)]; omega
      · rw [if_neg e2, if_neg (by omega)]; omega
theorem sumT_nonneg {t : List Int} {n : Nat} (h : ∀ i, i < n → 0 ≤ t.getD i 0) : ∀ k, k ≤ n → 0 ≤ sumT t k
  | 0, _ => Int.le_refl _
  | k + 1, hk => by rw [sumT]; have := sumT_nonneg h k (by omega); have := h k (by omega); omega
theorem sumT_ge {t : List Int} {n : Nat} (h : ∀ i, i < n → 0 ≤ t.getD i 0) : ∀ k, k ≤ n → ∀ i, i < k → t.getD i 0 ≤ sumT t k
  | 0, _, i, hi => absurd hi (by omega)
  | k + 1, hk, i, hi => by
    rw [sumT]
    have h0 := sumT_nonneg h k (by omega)
    have h1 := h k (by omega)
    by_cases e : i = k
    · subst e; omega
    · have := sumT_ge h k (by omega) i (by omega); omega
theorem sumT_le {t : List Int} {n : Nat} {m : Int} (h : ∀ i, i < n → t.getD i 0 ≤ m) : ∀ k, k ≤ n → sumT t k ≤ k * m
  | 0, _ => by simp [sumT]
  | k + 1, hk => by
    rw [sumT]; have h1 := sumT_le h k (by omega); have h2 := h k (by omega)
    have : ((k + 1 : Nat) : Int) * m = (k : Int) * m + m := by push_cast; rw [Int.add_mul]; omega
    omega
theorem sumT_z {t : List Int} {n : Nat} (hn : t.length = n) (h : ∀ i, i < n → 0 ≤ t.getD i 0) : sumT t n ≤ 0 ↔ AllZ t := by
  constructor
  · intro h1 i hi
    have := sumT_ge h n (Nat.le_refl _) i (by omega)
    omega
  · intro h1
    have := sumT_le (t := t) (n := n) (m := 0) (fun i hi => h1 i (by omega)) n (Nat.le_refl _)
    omega
theorem stepP_stop {sh : Bool} {L : List J4} {a : Int} {s : List Int × List P3} (hl : s.1.length = L.length) (h : AllZ s.1) : stepP sh L a s = s := by
  rw [stepP]
  rcases pk_spec sh L s.1 a with ⟨e, _⟩ | ⟨i, hi, e, hav, _⟩
  · rw [e, if_pos (by omega)]
  · have := h i (by omega); have := hav.2; omega
theorem runP_stop {sh : Bool} {L : List J4} (hL : JobsOk L) {k : Nat} (h : AllZ (runP sh L k).1) : ∀ d, runP sh L (k + d) = runP sh L k
  | 0 => rfl
  | d + 1 => by
    show stepP sh L _ (runP sh L (k + d)) = _
    rw [runP_stop hL h d]
    exact stepP_stop (runP_ok sh hL k).len h
theorem runP_less {sh : Bool} {L : List J4} (hL : JobsOk L) (d : Nat) : AllZ (runP sh L (100 + d)).1 ∨ sumT (runP sh L (100 + d)).1 L.length ≤ 160 - d := by
  induction d with
  | zero =>
    right
    have h := runP_ok sh hL 100
    have := sumT_le (t := (runP sh L 100).1) (n := L.length) (m := 20) (fun i hi => by have := h.bd i hi; have := hL.at_ i hi; omega) L.length (Nat.le_refl _)
    have := hL.le
    show sumT (runP sh L 100).1 L.length ≤ _
    omega
  | succ d ih =>
    rcases ih with h | h
    · left
      have := runP_stop hL h 1
      show AllZ (runP sh L (100 + d + 1)).1
      rw [this]; exact h
    · have hok := runP_ok sh hL (100 + d)
      by_cases hz : AllZ (runP sh L (100 + d)).1
      · left
        have := runP_stop hL hz 1
        show AllZ (runP sh L (100 + d + 1)).1
        rw [this]; exact hz
      · right
        show sumT (stepP sh L ((100 + d : Nat) : Int) (runP sh L (100 + d))).1 L.length ≤ _
        rw [stepP]
        rcases pk_spec sh L (runP sh L (100 + d)).1 ((100 + d : Nat) : Int) with ⟨e, hno⟩ | ⟨i, hi, e, hav, _⟩
        · refine absurd (fun i hi => ?_) hz
          rw [hok.len] at hi
          have h1 := hno i hi
          have h2 := hL.at_ i hi
          refine Classical.byContradiction fun h3 => h1 ⟨by push_cast; omega, by omega⟩
        · rw [e, if_neg (by omega), Int.toNat_natCast]
          show sumT (List.set _ _ _) _ ≤ _
          rw [sumT_set (by rw [hok.len]; exact hi), if_pos hi]
          push_cast
          omega
theorem runP_300 {sh : Bool} {L : List J4} (hL : JobsOk L) {k : Nat} (hk : 300 ≤ k) : AllZ (runP sh L k).1 := by
  obtain ⟨d, rfl⟩ : ∃ d, k = 100 + d := ⟨k - 100, by omega⟩
  rcases runP_less (sh := sh) hL d with h | h
  · exact h
  · have hok := runP_ok sh hL (100 + d)
    have := sumT_nonneg (t := (runP sh L (100 + d)).1) (n := L.length) (fun i hi => (hok.bd i hi).1) L.length (Nat.le_refl _)
    exfalso; omega
theorem runP_end {sh : Bool} {L : List J4} (hL : JobsOk L) {k : Nat} (h : AllZ (runP sh L k).1) : (runP sh L k).2 = planN sh L := by
  rw [planN]
  by_cases hk : k ≤ 300
  · obtain ⟨d, hd⟩ : ∃ d, 300 = k + d := ⟨300 - k, by omega⟩
    rw [hd, runP_stop hL h d]
  · obtain ⟨d, hd⟩ : ∃ d, k = 300 + d := ⟨k - 300, by omega⟩
    rw [hd, runP_stop hL (runP_300 hL (Nat.le_refl _)) d]

/-! Ends of pieces, of rows. -/
def setI (l : List Int) (i : Int) (x : Int) : List Int := l.set i.toNat x
def finTo (n : Nat) (p : List P3) : Nat → List Int
  | 0 => List.replicate n 0
  | k + 1 => (finTo n p k).set (p.getD k p0).job.toNat (p.getD k p0).to
def finN (n : Nat) (p : List P3) : List Int := finTo n p p.length
theorem finTo_len (n : Nat) (p : List P3) : ∀ k, (finTo n p k).length = n
  | 0 => by simp [finTo]
  | k + 1 => by rw [finTo, List.length_set]; exact finTo_len n p k
theorem finTo_bd {n : Nat} {p : List P3} {m : Int} (hm : 0 ≤ m) (h : ∀ q, q < p.length → 0 ≤ (p.getD q p0).to ∧ (p.getD q p0).to ≤ m) : ∀ k, k ≤ p.length → ∀ i, 0 ≤ (finTo n p k).getD i 0 ∧ (finTo n p k).getD i 0 ≤ m
  | 0, _, i => by
    rw [finTo, List.getD_eq_getElem?_getD, List.getElem?_replicate]
    by_cases e : i < n
    · rw [if_pos e]; exact ⟨Int.le_refl _, hm⟩
    · rw [if_neg e]; exact ⟨Int.le_refl _, hm⟩
  | k + 1, hk, i => by
    rw [finTo]
    have h1 := finTo_bd (n := n) hm h k (by omega) i
    have h2 := h k (by omega)
    by_cases e : (p.getD k p0).job.toNat < (finTo n p k).length
    · rw [getD_set_i _ _ _ _ _ e]
      split
      · exact h2
      · exact h1
    · rw [List.set_eq_of_length_le (by omega)]; exact h1
end Go.Proofs.Ytiadineakhcclaa
