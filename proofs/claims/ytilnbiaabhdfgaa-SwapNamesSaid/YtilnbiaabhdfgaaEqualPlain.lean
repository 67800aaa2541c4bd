/-
  Chains of choosing are cycles of trading: as many orders of choosing give an outcome as first outcomes do by trading.
-/
import Derived.Test.YtilnbiaabhdfgaaEqChk
namespace Go.Proofs.Ytilnbiaabhdfgaa
open Go.RowKit
set_option linter.unusedVariables false
set_option linter.unusedSimpArgs false

theorem cntR_countP {α : Type} (p : α → Bool) (l : List α) : cntR p l = l.countP p := by
  induction l with
  | nil => rfl
  | cons x l ih =>
    have e : cntR p (x :: l) = bif p x then Nat.succ (cntR p l) else cntR p l := rfl
    rw [e, ih, List.countP_cons]
    cases p x <;> simp

/-! ### orders that keep a relation -/
theorem linGo_iff (R : Nat) : ∀ (e : List Nat) (done : Nat), linGo R e done = true ↔ ∀ i, i < e.length → ∀ l, (rowR R (e.getD i 0)).testBit l = true → done.testBit l = true ∨ ∃ j, j < i ∧ e.getD j 0 = l := by
  intro e
  induction e with
  | nil => intro done; exact ⟨fun _ i hi => by simp at hi, fun _ => rfl⟩
  | cons x e ih =>
    intro done
    have eq : linGo R (x :: e) done = bif Nat.beq (Nat.land (rowR R x) done) (rowR R x) then linGo R e (Nat.lor done (Nat.shiftLeft 1 x)) else false := rfl
    have hsub : Nat.beq (Nat.land (rowR R x) done) (rowR R x) = true ↔ ∀ l, (rowR R x).testBit l = true → done.testBit l = true := by
      rw [Nat.beq_eq]
      show (rowR R x &&& done) = rowR R x ↔ _
      constructor
      · intro h l hl
        have := congrArg (fun m => m.testBit l) h
        simp only [Nat.testBit_and, hl, Bool.true_and] at this
        exact this
      · intro h
        apply Nat.eq_of_testBit_eq
        intro l
        rw [Nat.testBit_and]
        cases hl : (rowR R x).testBit l with
        | false => rfl
        | true => rw [h l hl]; rfl
    have hbit : ∀ l, (Nat.lor done (Nat.shiftLeft 1 x)).testBit l = (done.testBit l || decide (x = l)) := fun l => by
      show (done ||| 1 <<< x).testBit l = _
      rw [Nat.testBit_or, Nat.one_shiftLeft, Nat.testBit_two_pow]
    rw [eq]
    cases hc : Nat.beq (Nat.land (rowR R x) done) (rowR R x) with
    | false =>
      simp only [cond_false, Bool.false_eq_true, false_iff]
      intro h
      have : Nat.beq (Nat.land (rowR R x) done) (rowR R x) = true := hsub.2 fun l hl => by
        rcases h 0 (by simp) l (by simpa using hl) with h1 | ⟨j, hj, _⟩
        · exact h1
        · omega
      rw [hc] at this; cases this
    | true =>
      simp only [cond_true]
      rw [ih]
      constructor
      · intro h i hi l hl
        cases i with
        | zero => exact .inl (hsub.1 hc l (by simpa using hl))
        | succ i =>
          rcases h i (by simpa using hi) l (by simpa using hl) with h1 | ⟨j, hj, e1⟩
          · rw [hbit, Bool.or_eq_true, decide_eq_true_eq] at h1
            rcases h1 with h1 | h1
            · exact .inl h1
            · exact .inr ⟨0, by omega, by simpa using h1⟩
          · exact .inr ⟨j + 1, by omega, by simpa using e1⟩
      · intro h i hi l hl
        rcases h (i + 1) (by simpa using hi) l (by simpa using hl) with h1 | ⟨j, hj, e1⟩
        · left; rw [hbit, h1]; rfl
        · cases j with
          | zero => left; rw [hbit]; simp at e1; simp [e1]
          | succ j => exact .inr ⟨j, by omega, by simpa using e1⟩
theorem lin_iff {n R : Nat} {e : List Nat} (he : Ord e n) : linGo R e 0 = true ↔ ∀ x, x < n → ∀ l, (rowR R x).testBit l = true → l < n ∧ place e l < place e x := by
  rw [linGo_iff]
  constructor
  · intro h x hx l hl
    obtain ⟨p1, p2⟩ := place_lt ((he.mem x).2 hx)
    rcases h (place e x) p1 l (by rw [p2]; exact hl) with h1 | ⟨j, hj, e1⟩
    · simp at h1
    · refine ⟨by rw [← e1]; exact he.getD_lt (by rw [← he.len]; omega), ?_⟩
      have := place_first (l := e) (i := j) (g := l) (by omega) e1
      omega
  · intro h i hi l hl
    have hx := he.getD_lt (by rw [← he.len]; exact hi)
    obtain ⟨h1, h2⟩ := h _ hx l hl
    obtain ⟨p1, p2⟩ := place_lt ((he.mem l).2 h1)
    refine .inr ⟨place e l, ?_, p2⟩
    have h3 := place_first (l := e) (i := i) hi rfl
    omega

/-! ### permutations whose cycles keep it -/
theorem rowsOf_bit (R : Nat) (b : List Nat) (l : Nat) : (rowsOf R b).testBit l = true ↔ ∃ m, m ∈ b ∧ (rowR R m).testBit l = true := by
  induction b with
  | nil => show (0 : Nat).testBit l = true ↔ _; simp
  | cons x b ih =>
    have e : rowsOf R (x :: b) = rowR R x ||| rowsOf R b := rfl
    rw [e, Nat.testBit_or, Bool.or_eq_true, ih]
    constructor
    · rintro (h | ⟨m, hm, h⟩)
      · exact ⟨x, by simp, h⟩
      · exact ⟨m, by simp [hm], h⟩
    · rintro ⟨m, hm, h⟩
      rcases List.mem_cons.1 hm with rfl | hm
      · exact .inl h
      · exact .inr ⟨m, hm, h⟩
theorem maskL_bit (b : List Nat) (l : Nat) : (maskL b).testBit l = true ↔ l ∈ b := by
  induction b with
  | nil => show (0 : Nat).testBit l = true ↔ _; simp
  | cons x b ih =>
    have e : maskL (x :: b) = (1 <<< x) ||| maskL b := rfl
    rw [e, Nat.testBit_or, Bool.or_eq_true, ih, Nat.one_shiftLeft, Nat.testBit_two_pow, decide_eq_true_eq, List.mem_cons]
    constructor
    · rintro (h | h)
      · exact .inl h.symm
      · exact .inr h
    · rintro (h | h)
      · exact .inl h.symm
      · exact .inr h
theorem meets (a b : Nat) : Nat.beq (Nat.land a b) 0 = false ↔ ∃ l, a.testBit l = true ∧ b.testBit l = true := by
  constructor
  · intro h
    have hne : (a &&& b) ≠ 0 := fun e => by
      have : Nat.beq (Nat.land a b) 0 = true := by show Nat.beq (a &&& b) 0 = true; rw [e]; rfl
      rw [this] at h; cases h
    obtain ⟨l, hl⟩ := exists_bit hne
    rw [Nat.testBit_and, Bool.and_eq_true] at hl
    exact ⟨l, hl⟩
  · rintro ⟨l, h1, h2⟩
    cases hb : Nat.beq (Nat.land a b) 0 with
    | false => rfl
    | true =>
      have e : (a &&& b) = 0 := Nat.eq_of_beq_eq_true hb
      have : (a &&& b).testBit l = true := by rw [Nat.testBit_and, h1, h2]; rfl
      rw [e] at this; simp at this
theorem peel_bit (R L : Nat) (bs : List (List Nat)) (k : Nat) : (peel R L bs).testBit k = true ↔ ∃ b, b ∈ bs ∧ k ∈ b ∧ ∃ m l, m ∈ b ∧ (rowR R m).testBit l = true ∧ L.testBit l = true := by
  induction bs with
  | nil => show (0 : Nat).testBit k = true ↔ _; simp
  | cons b bs ih =>
    have e : peel R L (b :: bs) = bif Nat.beq (Nat.land (rowsOf R b) L) 0 then peel R L bs else (maskL b ||| peel R L bs) := rfl
    rw [e]
    cases hc : Nat.beq (Nat.land (rowsOf R b) L) 0 with
    | true =>
      simp only [cond_true]
      rw [ih]
      constructor
      · rintro ⟨b', hb', r⟩; exact ⟨b', by simp [hb'], r⟩
      · rintro ⟨b', hb', hk, m, l, hm, h1, h2⟩
        rcases List.mem_cons.1 hb' with rfl | hb'
        · have := (meets (rowsOf R b') L).2 ⟨l, (rowsOf_bit R b' l).2 ⟨m, hm, h1⟩, h2⟩
          rw [hc] at this; cases this
        · exact ⟨b', hb', hk, m, l, hm, h1, h2⟩
    | false =>
      simp only [cond_false]
      obtain ⟨l, h1, h2⟩ := (meets _ _).1 hc
      obtain ⟨m, hm, h1⟩ := (rowsOf_bit R b l).1 h1
      rw [Nat.testBit_or, Bool.or_eq_true, maskL_bit, ih]
      constructor
      · rintro (h | ⟨b', hb', r⟩)
        · exact ⟨b, by simp, h, m, l, hm, h1, h2⟩
        · exact ⟨b', by simp [hb'], r⟩
      · rintro ⟨b', hb', hk, r⟩
        rcases List.mem_cons.1 hb' with rfl | hb'
        · exact .inl hk
        · exact .inr ⟨b', hb', hk, r⟩

structure OkB (n : Nat) (s : List Nat) (bs : List (List Nat)) : Prop where
  cover : ∀ k, k < n → ∃ b, b ∈ bs ∧ k ∈ b
  lt : ∀ b k, b ∈ bs → k ∈ b → k < n
  closed : ∀ b k, b ∈ bs → k ∈ b → s.getD k 0 ∈ b
  conn : ∀ b k l, b ∈ bs → k ∈ b → l ∈ b → ∃ t, iter (fun x => s.getD x 0) t k = l
  one : ∀ b b' k, b ∈ bs → b' ∈ bs → k ∈ b → k ∈ b' → b = b'
theorem okB_of {n : Nat} {s : List Nat} {bs : List (List Nat)} (h : okBlocks n s bs = true) : OkB n s bs := by
  simp only [okBlocks, Bool.and_eq_true, List.all_eq_true, List.any_eq_true, List.mem_range, List.contains_iff_mem, decide_eq_true_eq, beq_iff_eq, Bool.or_eq_true, Bool.not_eq_true'] at h
  obtain ⟨⟨h1, h2⟩, h3⟩ := h
  refine ⟨h1, fun b k hb hk => (h2 b hb k hk).1.1, fun b k hb hk => (h2 b hb k hk).1.2, fun b k l hb hk hl => ?_, fun b b' k hb hb' hk hk' => ?_⟩
  · obtain ⟨t, _, e⟩ := (h2 b hb k hk).2 l hl; exact ⟨t, e⟩
  · rcases h3 b hb b' hb' k hk with h | h
    · have : b'.contains k = true := List.contains_iff_mem.2 hk'
      rw [h] at this; cases this
    · exact h

/-- A number for each, the same in a cycle, greater for whom something must be before. -/
def Lev (n R : Nat) (s : List Nat) (r : Nat → Nat) : Prop := (∀ k, k < n → r (s.getD k 0) = r k) ∧ ∀ k, k < n → ∀ l, (rowR R k).testBit l = true → r l < r k
section
variable {n R : Nat} {s : List Nat} {bs : List (List Nat)}
theorem OkB.same (h : OkB n s bs) {r : Nat → Nat} (hr : ∀ k, k < n → r (s.getD k 0) = r k) {b : List Nat} (hb : b ∈ bs) {k l : Nat} (hk : k ∈ b) (hl : l ∈ b) : r k = r l := by
  obtain ⟨t, rfl⟩ := h.conn b k l hb hk hl
  have key : ∀ t, iter (fun x => s.getD x 0) t k ∈ b ∧ r (iter (fun x => s.getD x 0) t k) = r k := by
    intro t
    induction t with
    | zero => exact ⟨hk, rfl⟩
    | succ t ih =>
      refine ⟨h.closed b _ hb ih.1, ?_⟩
      show r (s.getD (iter (fun x => s.getD x 0) t k) 0) = r k
      rw [hr _ (h.lt b _ hb ih.1), ih.2]
  exact (key t).2.symm
theorem indep_iff : ∀ bs : List (List Nat), indep R bs = true ↔ ∀ b, b ∈ bs → ∀ m l, m ∈ b → (rowR R m).testBit l = true → l ∉ b := by
  intro bs
  induction bs with
  | nil => exact ⟨fun _ b hb => by simp at hb, fun _ => rfl⟩
  | cons b bs ih =>
    have e : indep R (b :: bs) = bif Nat.beq (Nat.land (rowsOf R b) (maskL b)) 0 then indep R bs else false := rfl
    rw [e]
    cases hc : Nat.beq (Nat.land (rowsOf R b) (maskL b)) 0 with
    | false =>
      obtain ⟨l, h1, h2⟩ := (meets _ _).1 hc
      obtain ⟨m, hm, h1⟩ := (rowsOf_bit R b l).1 h1
      simp only [cond_false, Bool.false_eq_true, false_iff]
      intro h
      exact h b (by simp) m l hm h1 ((maskL_bit b l).1 h2)
    | true =>
      simp only [cond_true]
      rw [ih]
      constructor
      · intro h b' hb' m l hm h1 hl
        rcases List.mem_cons.1 hb' with rfl | hb'
        · have := (meets (rowsOf R b') (maskL b')).2 ⟨l, (rowsOf_bit R b' l).2 ⟨m, hm, h1⟩, (maskL_bit b' l).2 hl⟩
          rw [hc] at this; cases this
        · exact h b' hb' m l hm h1 hl
      · intro h b' hb'; exact h b' (by simp [hb'])
theorem peels_succ (d L : Nat) : peels R bs (d + 1) L = bif Nat.beq (peel R L bs) L then Nat.beq L 0 else peels R bs d (peel R L bs) := rfl
theorem beq0 (L : Nat) : Nat.beq L 0 = true ↔ L = 0 := by rw [Nat.beq_eq]
theorem peels_lev (h : OkB n s bs) : ∀ d L, peels R bs d L = true → ∃ r : Nat → Nat, (∀ b, b ∈ bs → ∀ k l, k ∈ b → l ∈ b → r k = r l) ∧ ∀ k, k < n → ∀ l, (rowR R k).testBit l = true → L.testBit l = true → r l < r k := by
  have zero : ∃ r : Nat → Nat, (∀ b, b ∈ bs → ∀ k l, k ∈ b → l ∈ b → r k = r l) ∧ ∀ k, k < n → ∀ l, (rowR R k).testBit l = true → (0 : Nat).testBit l = true → r l < r k := ⟨fun _ => 0, fun _ _ _ _ _ _ => rfl, fun k _ l _ hl => by simp at hl⟩
  intro d
  induction d with
  | zero => intro L hL; rw [(beq0 L).1 hL]; exact zero
  | succ d ih =>
    intro L hL
    rw [peels_succ] at hL
    cases hc : Nat.beq (peel R L bs) L with
    | true => rw [hc] at hL; rw [(beq0 L).1 hL]; exact zero
    | false =>
      rw [hc] at hL
      obtain ⟨r, h1, h2⟩ := ih _ hL
      have hp := fun k => peel_bit R L bs k
      have hblk : ∀ b, b ∈ bs → ∀ k l, k ∈ b → l ∈ b → (peel R L bs).testBit k = true → (peel R L bs).testBit l = true := fun b hb k l hk hl hkk => by
        obtain ⟨b', hb', hk', rr⟩ := (hp k).1 hkk
        have := h.one b b' k hb hb' hk hk'
        subst this
        exact (hp l).2 ⟨b, hb, hl, rr⟩
      refine ⟨fun k => if (peel R L bs).testBit k then r k + 1 else 0, fun b hb k l hk hl => ?_, fun k hk l hkl hl => ?_⟩
      · dsimp only
        cases hkk : (peel R L bs).testBit k with
        | true => rw [hblk b hb k l hk hl hkk, h1 b hb k l hk hl]
        | false =>
          cases hll : (peel R L bs).testBit l with
          | true => rw [hblk b hb l k hl hk hll] at hkk; cases hkk
          | false => rfl
      · dsimp only
        obtain ⟨b, hb, hkb⟩ := h.cover k hk
        have hkk : (peel R L bs).testBit k = true := (hp k).2 ⟨b, hb, hkb, k, l, hkb, hkl, hl⟩
        rw [hkk]
        cases hll : (peel R L bs).testBit l with
        | true => have := h2 k hk l hkl hll; simp; exact this
        | false => simp
theorem min_in {L : Nat} (r : Nat → Nat) (h : L ≠ 0) : ∃ k, L.testBit k = true ∧ ∀ l, L.testBit l = true → r k ≤ r l := by
  apply Classical.byContradiction
  intro hno
  have key : ∀ m k, L.testBit k = true → m ≤ r k := by
    intro m
    induction m with
    | zero => intro k _; omega
    | succ m ih =>
      intro k hk
      apply Classical.byContradiction
      intro hlt
      exact hno ⟨k, hk, fun l hl => by have := ih l hl; omega⟩
  obtain ⟨k, hk⟩ := exists_bit h
  have := key (r k + 1) k hk
  omega
theorem lev_peels (h : OkB n s bs) {r : Nat → Nat} (hr : Lev n R s r) : ∀ d L, (∀ k, (peel R L bs).testBit k = true → L.testBit k = true) → (∀ k, L.testBit k = true → k < n) → cardF n L ≤ d → peels R bs d L = true := by
  have card0 : ∀ L, (∀ k, L.testBit k = true → k < n) → cardF n L = 0 → L = 0 := fun L hlt hc => by
    apply Classical.byContradiction
    intro h0
    obtain ⟨g, hg⟩ := exists_bit h0
    have := cardF_drop (hlt g hg) hg
    omega
  intro d
  induction d with
  | zero => intro L _ hlt hc; exact (beq0 L).2 (card0 L hlt (by omega))
  | succ d ih =>
    intro L hsub hlt hc
    rw [peels_succ]
    by_cases h0 : L = 0
    · subst h0
      have : peel R 0 bs = 0 := by
        apply Classical.byContradiction
        intro h1
        obtain ⟨k, hk⟩ := exists_bit h1
        have := hsub k hk
        simp at this
      rw [this]; rfl
    · obtain ⟨k, hk, hmin⟩ := min_in r h0
      have hkp : (peel R L bs).testBit k = false := by
        cases hp : (peel R L bs).testBit k with
        | false => rfl
        | true =>
          obtain ⟨b, hb, hkb, m, l, hm, h1, h2⟩ := (peel_bit R L bs k).1 hp
          have e1 := h.same hr.1 hb hkb hm
          have e2 := hr.2 m (h.lt b m hb hm) l h1
          have e3 := hmin l h2
          omega
      have hne : Nat.beq (peel R L bs) L = false := by
        cases hc2 : Nat.beq (peel R L bs) L with
        | false => rfl
        | true => rw [Nat.eq_of_beq_eq_true hc2, hk] at hkp; cases hkp
      rw [hne]
      refine ih _ (fun k2 hk2 => ?_) (fun k2 hk2 => hlt k2 (hsub k2 hk2)) ?_
      · obtain ⟨b, hb, hkb, m, l, hm, h1, h2⟩ := (peel_bit R (peel R L bs) bs k2).1 hk2
        exact (peel_bit R L bs k2).2 ⟨b, hb, hkb, m, l, hm, h1, hsub l h2⟩
      · have := cardF_lt hsub n ⟨k, hlt k hk, hk, hkp⟩
        omega
theorem comp_iff (h : OkB n s bs) (hrow : ∀ k, k < n → ∀ l, (rowR R k).testBit l = true → l < n) : compR n R bs = true ↔ ∃ r, Lev n R s r := by
  have e : compR n R bs = bif indep R bs then peels R bs n (2 ^ n - 1) else false := rfl
  have hfull : ∀ k, (2 ^ n - 1 : Nat).testBit k = true ↔ k < n := fun k => by rw [full_bit]; simp
  rw [e]
  constructor
  · intro hc
    cases hi : indep R bs with
    | false => rw [hi] at hc; cases hc
    | true =>
      rw [hi] at hc
      obtain ⟨r, h1, h2⟩ := peels_lev h n _ hc
      refine ⟨r, fun k hk => ?_, fun k hk l hl => h2 k hk l hl ((hfull l).2 (hrow k hk l hl))⟩
      obtain ⟨b, hb, hkb⟩ := h.cover k hk
      exact h1 b hb _ _ (h.closed b k hb hkb) hkb
  · rintro ⟨r, hr⟩
    have hi : indep R bs = true := (indep_iff bs).2 fun b hb m l hm h1 hl => by
      have e1 := h.same hr.1 hb hm hl
      have e2 := hr.2 m (h.lt b m hb hm) l h1
      omega
    rw [hi]
    refine lev_peels h hr n _ (fun k hk => ?_) (fun k hk => (hfull k).1 hk) (cardF_le _ _)
    obtain ⟨b, hb, hkb, _⟩ := (peel_bit _ _ _ _).1 hk
    exact (hfull k).2 (h.lt b k hb hkb)
end

/-! ### counting -/
theorem ordsF_nodup {n : Nat} : ∀ (d : Nat) (l : List Nat), Part l n → l.length + d = n → (ordsF n d l).Nodup := by
  intro d
  induction d with
  | zero => intro l _ _; simp [ordsF]
  | succ d ih =>
    intro l hp hl
    rw [List.nodup_iff_pairwise_ne]
    simp only [ordsF]
    rw [List.pairwise_flatMap]
    constructor
    · intro x hx
      simp only [List.mem_range] at hx
      split
      · exact List.Pairwise.nil
      · rename_i hxl
        rw [← List.nodup_iff_pairwise_ne]
        exact ih _ (hp.snoc hx hxl) (by simp; omega)
    · refine List.Pairwise.imp_of_mem ?_ (List.pairwise_lt_range (n := n))
      intro x y hx hy hxy a ha b hb e
      simp only [List.mem_range] at hx hy
      split at ha
      · simp at ha
      split at hb
      · simp at hb
      rename_i hxl hyl
      obtain ⟨_, ta, ea⟩ := (mem_ordsF d (l ++ [x]) a (hp.snoc hx hxl) (by simp; omega)).1 ha
      obtain ⟨_, tb, eb⟩ := (mem_ordsF d (l ++ [y]) b (hp.snoc hy hyl) (by simp; omega)).1 hb
      rw [ea, eb] at e
      simp only [List.append_assoc, List.cons_append, List.nil_append] at e
      have := List.append_cancel_left e
      injection this with h1 _
      omega
theorem ordsN_nodup (n : Nat) : (ordsN n).Nodup := ordsF_nodup n [] (Part.nil_ n) (by simp)
theorem nodup_map {α β : Type} {f : α → β} {l : List α} (h : l.Nodup) (hf : ∀ a, a ∈ l → ∀ b, b ∈ l → f a = f b → a = b) : (l.map f).Nodup := by
  rw [List.nodup_iff_pairwise_ne] at h ⊢
  rw [List.pairwise_map]
  exact List.Pairwise.imp_of_mem (fun ha hb hne e => hne (hf _ ha _ hb e)) h
/-- Another way to name all orders counts the same. -/
theorem count_bij {n : Nat} (φ : List Nat → List Nat) (hφ : ∀ l, Ord l n → Ord (φ l) n) (hinj : ∀ l l', Ord l n → Ord l' n → φ l = φ l' → l = l') (p : List Nat → Bool) :
    (ordsN n).countP (fun l => p (φ l)) = (ordsN n).countP p := by
  have hnd := ordsN_nodup n
  have hnm : ((ordsN n).map φ).Nodup := nodup_map hnd fun a ha b hb e => hinj a b (mem_ordsN.1 ha) (mem_ordsN.1 hb) e
  have hsub : ∀ a, a ∈ (ordsN n).map φ → a ∈ ordsN n := fun a ha => by
    obtain ⟨l, hl, rfl⟩ := List.mem_map.1 ha
    exact mem_ordsN.2 (hφ l (mem_ordsN.1 hl))
  have hperm : ((ordsN n).map φ).Perm (ordsN n) := by
    rw [List.perm_ext_iff_of_nodup hnm hnd]
    intro a
    refine ⟨hsub a, fun ha => ?_⟩
    apply Classical.byContradiction
    intro hno
    have := List.Nodup.length_le_of_subset (List.nodup_cons.2 ⟨hno, hnm⟩) (l₂ := ordsN n) (fun x hx => by
      rcases List.mem_cons.1 hx with rfl | hx
      · exact ha
      · exact hsub x hx)
    simp at this
    omega
  rw [← hperm.countP_eq p, List.countP_map]
  rfl
theorem count_congr {α : Type} {l : List α} {p q : α → Bool} (h : ∀ a, a ∈ l → p a = q a) : l.countP p = l.countP q := by
  induction l with
  | nil => rfl
  | cons x l ih => rw [List.countP_cons, List.countP_cons, h x (by simp), ih (fun a ha => h a (by simp [ha]))]
/-- Counted by what comes out. -/
theorem count_fiber {n : Nat} (f : List Nat → List Nat) (p : List Nat → Bool) (ls : List (List Nat)) (hf : ∀ l, l ∈ ls → Ord (f l) n) :
    ls.countP (fun l => p (f l)) = ((ordsN n).map fun u => if p u then ls.countP (fun l => f l == u) else 0).sum := by
  induction ls with
  | nil =>
    simp only [List.countP_nil, ite_self]
    generalize ordsN n = L
    induction L with
    | nil => rfl
    | cons x L ih => simpa using ih
  | cons l ls ih =>
    rw [List.countP_cons, ih (fun a ha => hf a (by simp [ha]))]
    have hm : f l ∈ ordsN n := mem_ordsN.2 (hf l (by simp))
    have hnd := ordsN_nodup n
    have key : ∀ L : List (List Nat), L.Nodup → (L.map fun u => if p u then (l :: ls).countP (fun l => f l == u) else 0).sum = (L.map fun u => if p u then ls.countP (fun l => f l == u) else 0).sum + if f l ∈ L ∧ p (f l) = true then 1 else 0 := by
      intro L
      induction L with
      | nil => intro _; simp
      | cons u L ih2 =>
        intro hL
        rw [List.nodup_cons] at hL
        rw [List.map_cons, List.map_cons, List.sum_cons, List.sum_cons, ih2 hL.2, List.countP_cons]
        obtain ⟨S, hS⟩ : ∃ S, (L.map fun u => if p u then ls.countP (fun l => f l == u) else 0).sum = S := ⟨_, rfl⟩
        rw [hS]
        obtain ⟨c, hc⟩ : ∃ c, ls.countP (fun l => f l == u) = c := ⟨_, rfl⟩
        rw [hc]
        clear hS hc ih2
        by_cases e : f l = u
        · have hno : f l ∉ L := by rw [e]; exact hL.1
          have e2 : (f l == u) = true := by simpa using e
          have hin : f l ∈ u :: L := by rw [e]; simp
          have h1 : ¬ (f l ∈ L ∧ p (f l) = true) := fun h => hno h.1
          have h2 : (f l ∈ u :: L ∧ p (f l) = true) ↔ p u = true := by rw [← e]; simp
          rw [if_neg h1, e2]
          simp only [h2]
          cases hp : p u <;> simp <;> omega
        · have e2 : (f l == u) = false := by simpa using e
          have hiff : (f l ∈ u :: L ∧ p (f l) = true) ↔ (f l ∈ L ∧ p (f l) = true) := by simp [e]
          rw [e2]
          simp only [hiff, Bool.false_eq_true, if_false, Nat.add_zero]
          omega
    rw [key _ hnd]
    cases hp : p (f l) <;> simp [hm, hp]
/-- The core: as many orders that keep the relation as permutations with levels. -/
theorem lin_lev {n : Nat} (h1 : 1 ≤ n) (h5 : n ≤ 5) {r : Nat → Nat} (hr : ∀ k, k < n → r k < 2 ^ k) (pl : List Nat → Bool) (pc : List Nat → Bool)
    (hl : ∀ e, Ord e n → (pl e = true ↔ ∀ x, x < n → ∀ l, (r x).testBit l = true → place e l < place e x))
    (hc : ∀ s, Ord s n → (pc s = true ↔ ∃ v : Nat → Nat, (∀ k, k < n → v (s.getD k 0) = v k) ∧ ∀ k, k < n → ∀ l, (r k).testBit l = true → v l < v k)) :
    (ordsN n).countP pl = (ordsN n).countP pc := by
  have hrow := row_pack h1 h5 hr
  have hlt : ∀ k, k < n → ∀ l, (r k).testBit l = true → l < n := fun k hk l h => by have := testBit_lt (hr k hk) h; omega
  have hchk := chk h1 h5 hr
  rw [cntR_countP, cntR_countP] at hchk
  have hbo := blocks_ok n h1 h5
  simp only [okAll, Bool.and_eq_true, decide_eq_true_eq, List.all_eq_true] at hbo
  obtain ⟨hlen, hzip⟩ := hbo
  have e1 : (ordsN n).countP pl = (permsN n).countP fun e => linGo (pack r n) e 0 := by
    rw [← perms_eq n h1 h5]
    refine count_congr fun e he => ?_
    have ho := mem_ordsN.1 he
    rw [Bool.eq_iff_iff, hl e ho, lin_iff ho]
    constructor
    · intro h x hx l hlx
      rw [hrow x hx] at hlx
      exact ⟨hlt x hx l hlx, h x hx l hlx⟩
    · intro h x hx l hlx
      exact (h x hx l (by rw [hrow x hx]; exact hlx)).2
  have e2 : ∀ (ps : List (List Nat)) (bs : List (List (List Nat))), ps.length = bs.length → (∀ x, x ∈ ps.zip bs → okBlocks n x.1 x.2 = true) → (∀ s, s ∈ ps → Ord s n) → ps.countP pc = bs.countP (compR n (pack r n)) := by
    intro ps
    induction ps with
    | nil => intro bs hb _ _; cases bs with
      | nil => rfl
      | cons b bs => simp at hb
    | cons s ps ih =>
      intro bs hb hz ho
      cases bs with
      | nil => simp at hb
      | cons b bs =>
        rw [List.countP_cons, List.countP_cons, ih bs (by simpa using hb) (fun x hx => hz x (by simp [hx])) (fun s hs => ho s (by simp [hs]))]
        have hob := okB_of (hz (s, b) (by simp))
        have : pc s = compR n (pack r n) b := by
          rw [Bool.eq_iff_iff, hc s (ho s (by simp)), comp_iff hob (fun k hk l h => by rw [hrow k hk] at h; exact hlt k hk l h)]
          constructor
          · rintro ⟨v, h1, h2⟩; exact ⟨v, h1, fun k hk l h => h2 k hk l (by rw [hrow k hk] at h; exact h)⟩
          · rintro ⟨v, h1, h2⟩; exact ⟨v, h1, fun k hk l h => h2 k hk l (by rw [hrow k hk]; exact h)⟩
        rw [this]
  rw [e1, hchk, ← e2 (permsN n) (blocksN n) hlen hzip (fun s hs => by rw [← perms_eq n h1 h5] at hs; exact mem_ordsN.1 hs), ← perms_eq n h1 h5]
end Go.Proofs.Ytilnbiaabhdfgaa
