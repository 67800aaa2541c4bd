/-
  The trading rule, plain: everyone who is left points to someone who is left, somebody is on a cycle, and so the rule comes to its end.
-/
import Derived.Test.YtilnbiaabhdfgaaTtcPlain
namespace Go.Proofs.Ytilnbiaabhdfgaa
open Go.RowKit
set_option linter.unusedVariables false
set_option linter.unusedSimpArgs false

/-- Wishes and what everyone has: n people, n things, each thing once. -/
structure Mkt (W : List (List Nat)) (has : List Nat) (n : Nat) : Prop where
  len : W.length = n
  rows : ∀ i, i < n → (W.getD i []).length = n ∧ ∀ g, g ∈ W.getD i [] ↔ g < n
  hlen : has.length = n
  hmem : ∀ g, g ∈ has ↔ g < n
  hinj : ∀ i j, i < n → j < n → has.getD i 0 = has.getD j 0 → i = j

/-! ### pigeons -/
theorem nodup_le (n : Nat) : ∀ l : List Nat, l.Nodup → (∀ x ∈ l, x < n) → l.length ≤ n := by
  induction n with
  | zero => intro l _ h; cases l with | nil => simp | cons x l => exact absurd (h x (by simp)) (by omega)
  | succ n ih =>
    intro l hn h
    by_cases hm : n ∈ l
    · have h1 := List.length_erase_of_mem hm
      have h2 := ih (l.erase n) (hn.erase n) (fun x hx => by
        have hx1 := List.mem_of_mem_erase hx
        have hx2 : x ≠ n := fun e => by
          subst e
          exact (List.Nodup.not_mem_erase hn) hx
        have := h x hx1
        omega)
      have h3 : 0 < l.length := List.length_pos_of_mem hm
      omega
    · have := ih l hn (fun x hx => by
        have h1 := h x hx
        have : x ≠ n := fun e => hm (e ▸ hx)
        omega)
      omega
theorem pigeon (n : Nat) (f : Nat → Nat) (h : ∀ k, k ≤ n → f k < n) : ∃ a b, a < b ∧ b ≤ n ∧ f a = f b := by
  apply Classical.byContradiction
  intro hno
  have hnd : ((List.range (n + 1)).map f).Nodup := by
    rw [List.nodup_iff_pairwise_ne] at *
    rw [List.pairwise_map]
    refine List.Pairwise.imp_of_mem ?_ (List.pairwise_lt_range (n := n + 1))
    intro a b ha hb hab e
    simp only [List.mem_range] at ha hb
    exact hno ⟨a, b, hab, by omega, e⟩
  have := nodup_le n _ hnd (fun x hx => by
    obtain ⟨k, hk, rfl⟩ := List.mem_map.1 hx
    simp only [List.mem_range] at hk
    exact h k (by omega))
  simp at this
  omega
theorem iter_add (f : Nat → Nat) (i : Nat) : ∀ a b, iter f (a + b) i = iter f b (iter f a i)
  | a, 0 => rfl
  | a, b + 1 => by show f (iter f (a + b) i) = f (iter f b (iter f a i)); rw [iter_add f i a b]
theorem onCyc_iff {f : Nat → Nat} {n i : Nat} : onCyc f n i = true ↔ ∃ k, 0 < k ∧ k ≤ n ∧ iter f k i = i := by
  simp only [onCyc, List.any_eq_true, List.mem_range, beq_iff_eq]
  constructor
  · rintro ⟨k, hk, e⟩; exact ⟨k + 1, by omega, by omega, e⟩
  · rintro ⟨k, h0, hk, e⟩; exact ⟨k - 1, by omega, by rwa [show k - 1 + 1 = k from by omega]⟩
/-- Somebody of a set that pointing does not leave is on a cycle. -/
theorem cycle_exists {f : Nat → Nat} {n : Nat} {S : Nat → Prop} (hS : ∀ j, S j → S (f j)) (hlt : ∀ j, S j → j < n) {i : Nat} (hi : S i) : ∃ j, S j ∧ onCyc f n j = true := by
  have hin : ∀ k, S (iter f k i) := fun k => by
    induction k with
    | zero => exact hi
    | succ k ih => exact hS _ ih
  obtain ⟨a, b, hab, hb, e⟩ := pigeon n (fun k => iter f k i) (fun k _ => hlt _ (hin k))
  refine ⟨iter f a i, hin a, onCyc_iff.2 ⟨b - a, by omega, by omega, ?_⟩⟩
  rw [← iter_add, show a + (b - a) = b from by omega]
  exact e.symm

/-! ### who is left, and what is left -/
/-- left: some people; things: just what they have. -/
structure LeftOk (has : List Nat) (n left things : Nat) : Prop where
  lt : left < 2 ^ n
  tlt : things < 2 ^ n
  things : ∀ g, things.testBit g = true ↔ ∃ i, i < n ∧ left.testBit i = true ∧ has.getD i 0 = g
theorem testBit_lt {M n i : Nat} (h : M < 2 ^ n) (hi : M.testBit i = true) : i < n := by
  rcases Nat.lt_or_ge i n with h1 | h1
  · exact h1
  · rw [Nat.testBit_lt_two_pow (Nat.lt_of_lt_of_le h (Nat.pow_le_pow_right (by decide) h1))] at hi; cases hi

section
variable {W : List (List Nat)} {has : List Nat} {n left things : Nat}
theorem Mkt.has_lt (h : Mkt W has n) {i : Nat} (hi : i < n) : has.getD i 0 < n := (h.hmem _).1 (getD_mem (by rw [h.hlen]; exact hi))
theorem Mkt.place_has (h : Mkt W has n) {i : Nat} (hi : i < n) : place has (has.getD i 0) = i := by
  have hm : has.getD i 0 ∈ has := getD_mem (by rw [h.hlen]; exact hi)
  obtain ⟨h1, h2⟩ := place_lt hm
  exact h.hinj _ _ (by rw [← h.hlen]; exact h1) hi h2
theorem Mkt.some_wish (h : Mkt W has n) (hl : LeftOk has n left things) {i : Nat} (hi : i < n) (hb : left.testBit i = true) : ∃ g ∈ W.getD i [], things.testBit g = true :=
  ⟨has.getD i 0, ((h.rows i hi).2 _).2 (h.has_lt hi), (hl.things _).2 ⟨i, hi, hb, rfl⟩⟩
/-- Whom one points to who is left is left. -/
theorem Mkt.next_left (h : Mkt W has n) (hl : LeftOk has n left things) {i : Nat} (hi : i < n) (hb : left.testBit i = true) :
    nextF W has things i < n ∧ left.testBit (nextF W has things i) = true ∧ has.getD (nextF W has things i) 0 = best (W.getD i []) things := by
  have hbm := best_mem (h.some_wish hl hi hb)
  obtain ⟨j, hj, hjb, e⟩ := (hl.things _).1 hbm.2
  have : nextF W has things i = j := by unfold nextF; rw [← e]; exact h.place_has hj
  rw [this]
  exact ⟨hj, hjb, e⟩
def LeftS (n left : Nat) (j : Nat) : Prop := j < n ∧ left.testBit j = true
theorem Mkt.closed (h : Mkt W has n) (hl : LeftOk has n left things) : ∀ j, LeftS n left j → LeftS n left (nextF W has things j) := fun j hj => by
  have := h.next_left hl hj.1 hj.2
  exact ⟨this.1, this.2.1⟩
theorem gone_bit (i : Nat) : (goneF W has n left things).testBit i = (decide (i < n) && (left.testBit i && onCyc (nextF W has things) n i)) := testBit_maskF n _ i
theorem exists_bit {M : Nat} (h : M ≠ 0) : ∃ i, M.testBit i = true := by
  apply Classical.byContradiction
  intro hno
  apply h
  apply Nat.eq_of_testBit_eq
  intro i
  rw [Nat.zero_testBit]
  cases hb : M.testBit i with
  | false => rfl
  | true => exact absurd ⟨i, hb⟩ hno
/-- Somebody leaves. -/
theorem Mkt.some_gone (h : Mkt W has n) (hl : LeftOk has n left things) (h0 : left ≠ 0) : ∃ i, i < n ∧ left.testBit i = true ∧ (goneF W has n left things).testBit i = true := by
  obtain ⟨i, hi⟩ := exists_bit h0
  obtain ⟨j, hj, hc⟩ := cycle_exists (S := LeftS n left) (h.closed hl) (fun j hj => hj.1) (i := i) ⟨testBit_lt hl.lt hi, hi⟩
  exact ⟨j, hj.1, hj.2, by rw [gone_bit]; simp [hj.1, hj.2, hc]⟩
theorem sdiff_lt_self {a b : Nat} (h : ∃ i, a.testBit i = true ∧ b.testBit i = true) : sdiff a b < a := by
  have hle : sdiff a b ≤ a := Nat.and_le_left
  have hne : sdiff a b ≠ a := fun e => by
    obtain ⟨i, h1, h2⟩ := h
    have := testBit_sdiff a b i
    rw [e, h1, h2] at this
    cases this
  omega
theorem taken_bit (gone g : Nat) : (takenF has n gone).testBit g = (decide (g < n) && (List.range n).any fun i => gone.testBit i && has.getD i 0 == g) := testBit_maskF n _ g
theorem Mkt.step (h : Mkt W has n) (hl : LeftOk has n left things) : LeftOk has n (sdiff left (goneF W has n left things)) (sdiff things (takenF has n (goneF W has n left things))) := by
  refine ⟨sdiff_lt _ _ _ hl.lt (maskF_lt _ _), sdiff_lt _ _ _ hl.tlt (maskF_lt _ _), fun g => ?_⟩
  rw [testBit_sdiff, Bool.and_eq_true, hl.things, Bool.not_eq_true', taken_bit, Bool.and_eq_false_iff]
  constructor
  · rintro ⟨⟨i, hi, hb, rfl⟩, hno⟩
    refine ⟨i, hi, ?_, rfl⟩
    rw [testBit_sdiff, hb, Bool.true_and, Bool.not_eq_true']
    rcases hno with hno | hno
    · exact absurd (h.has_lt hi) (by simpa using hno)
    · cases hg : (goneF W has n left things).testBit i with
      | false => rfl
      | true =>
        have := List.any_eq_false.1 hno i (by simpa using hi)
        simp [hg] at this
  · rintro ⟨i, hi, hb, rfl⟩
    rw [testBit_sdiff, Bool.and_eq_true, Bool.not_eq_true'] at hb
    refine ⟨⟨i, hi, hb.1, rfl⟩, .inr ?_⟩
    rw [List.any_eq_false]
    intro j hj
    simp only [List.mem_range] at hj
    simp only [Bool.and_eq_true, beq_iff_eq, not_and]
    intro hgj e
    have := h.hinj j i hj hi e
    subst this
    rw [hb.2] at hgj; cases hgj
/-- A thing is left just where its owner is. -/
theorem Mkt.left_owner {L T : Nat} (hM : Mkt W has n) (hl : LeftOk has n L T) {g : Nat} (hg : g < n) : L.testBit (place has g) = T.testBit g := by
  obtain ⟨h1, h2⟩ := place_lt ((hM.hmem g).2 hg)
  rw [hM.hlen] at h1
  rw [Bool.eq_iff_iff, hl.things]
  constructor
  · intro h; exact ⟨_, h1, h, h2⟩
  · rintro ⟨i, hi, hb, rfl⟩
    rw [hM.place_has hi]; exact hb

theorem full_bit (i : Nat) : (2 ^ n - 1).testBit i = decide (i < n) := Nat.testBit_two_pow_sub_one n i
theorem full_lt : 2 ^ n - 1 < 2 ^ n := by have := Nat.two_pow_pos n; omega
theorem Mkt.start (h : Mkt W has n) : LeftOk has n (2 ^ n - 1) (2 ^ n - 1) := by
  refine ⟨full_lt, full_lt, fun g => ?_⟩
  rw [full_bit, decide_eq_true_eq]
  constructor
  · intro hg
    obtain ⟨h1, h2⟩ := place_lt ((h.hmem g).2 hg)
    exact ⟨place has g, by rw [← h.hlen]; exact h1, by rw [full_bit]; simp; rw [← h.hlen]; exact h1, h2⟩
  · rintro ⟨i, hi, _, rfl⟩
    exact h.has_lt hi

/-- How many people of a set. -/
def cardF : Nat → Nat → Nat
  | 0, _ => 0
  | n + 1, M => cardF n M + if M.testBit n then 1 else 0
theorem cardF_le (n M : Nat) : cardF n M ≤ n := by
  induction n with
  | zero => simp [cardF]
  | succ n ih => simp only [cardF]; split <;> omega
theorem cardF_mono {a b : Nat} (h : ∀ i, a.testBit i = true → b.testBit i = true) (n : Nat) : cardF n a ≤ cardF n b := by
  induction n with
  | zero => simp [cardF]
  | succ n ih =>
    simp only [cardF]
    cases ha : a.testBit n with
    | true => rw [h n ha]; simp; omega
    | false => simp only [Bool.false_eq_true, if_false]; omega
theorem cardF_lt {a b : Nat} (h : ∀ i, a.testBit i = true → b.testBit i = true) (n : Nat) (hx : ∃ i, i < n ∧ b.testBit i = true ∧ a.testBit i = false) : cardF n a < cardF n b := by
  induction n with
  | zero => obtain ⟨i, hi, _⟩ := hx; omega
  | succ n ih =>
    simp only [cardF]
    obtain ⟨i, hi, hb, ha⟩ := hx
    by_cases e : i = n
    · subst e
      rw [ha, hb]
      have := cardF_mono h i
      simp; omega
    · have := ih ⟨i, by omega, hb, ha⟩
      cases ha' : a.testBit n with
      | true => rw [h n ha']; simp; omega
      | false => simp only [Bool.false_eq_true, if_false]; omega
theorem Mkt.card_step (h : Mkt W has n) (hl : LeftOk has n left things) (h0 : left ≠ 0) : cardF n (sdiff left (goneF W has n left things)) < cardF n left := by
  obtain ⟨i, hi, hb, hg⟩ := h.some_gone hl h0
  refine cardF_lt (fun j hj => ?_) n ⟨i, hi, hb, ?_⟩
  · rw [testBit_sdiff] at hj
    cases hjb : left.testBit j with
    | true => rfl
    | false => rw [hjb] at hj; cases hj
  · rw [testBit_sdiff, hb, hg]; rfl
end
end Go.Proofs.Ytilnbiaabhdfgaa
