/-
  dates (plain): the greatest delay of a row, in both forms; orders that keep the befores.
-/
import Derived.Test.YtiadineakhcclaaDLeastP
import Derived.Test.YtiadineakhcclaaDRefs
import Derived.Test.YtiadineakhcclaaDBef
namespace Go.Proofs.Ytiadineakhcclaa
open Go.RowKit
set_option linter.unusedVariables false
set_option linter.unusedSimpArgs false

theorem rowAt_bd {L : List J4} (hL : JobsOk L) {o : List Int} (ho : ∀ x ∈ o, 0 ≤ x ∧ x < (L.length : Int)) : ∀ k, k ≤ o.length → 0 ≤ rowAt L o k ∧ rowAt L o k ≤ 20 * k
  | 0, _ => ⟨Int.le_refl _, by simp [rowAt]⟩
  | k + 1, hk => by
      have h1 := rowAt_bd hL ho k (by omega)
      have h2 := ho (o.getD k 0) (by rw [← getD_cons_of (d := (0 : Int)) (by omega)]; exact List.getElem_mem _)
      have h3 := hL.at_ (o.getD k 0).toNat (by omega)
      rw [rowAt]; push_cast; omega
theorem rowTo_bd {L : List J4} (hL : JobsOk L) {o : List Int} (ho : ∀ x ∈ o, 0 ≤ x ∧ x < (L.length : Int)) : ∀ k, k ≤ o.length → ∀ j, 0 ≤ (rowTo L o k).getD j 0 ∧ (rowTo L o k).getD j 0 ≤ 20 * k
  | 0, _, j => by
      rw [rowTo, List.getD_eq_getElem?_getD, List.getElem?_replicate]
      split <;> simp
  | k + 1, hk, j => by
      have h1 := rowTo_bd hL ho k (by omega) j
      have h2 := rowAt_bd hL ho (k + 1) hk
      have h3 := ho (o.getD k 0) (by rw [← getD_cons_of (d := (0 : Int)) (by omega)]; exact List.getElem_mem _)
      rw [rowTo, getD_set_i _ _ _ _ _ (by rw [rowTo_len]; omega)]
      split
      · exact h2
      · push_cast; omega
theorem rdelTo_le {L : List J4} {e : List Int} {v : Int} : ∀ k, rdelTo L e k ≤ v ↔ -1073741824 ≤ v ∧ ∀ j, j < k → e.getD j 0 - (L.getD j j0).d ≤ v
  | 0 => by
      rw [rdelTo]
      exact ⟨fun h => ⟨h, fun j hj => by omega⟩, fun h => h.1⟩
  | k + 1 => by
      have ih := rdelTo_le (L := L) (e := e) (v := v) k
      rw [rdelTo]
      constructor
      · intro h
        obtain ⟨h1, h2⟩ := ih.1 (by omega)
        exact ⟨h1, fun j hj => by
          by_cases e : j = k
          · subst e; omega
          · exact h2 j (by omega)⟩
      · rintro ⟨h1, h2⟩
        have h3 := ih.2 ⟨h1, fun j hj => h2 j (by omega)⟩
        have h4 := h2 k (by omega)
        omega
theorem rowAt_up (L : List J4) (b : List Nat) : ∀ k, k ≤ b.length → rowAt L (up b) k = timeL L (b.take k)
  | 0, _ => by rw [List.take_zero]; rfl
  | k + 1, h => by
      have e : (up b).getD k 0 = ((b.getD k 0 : Nat) : Int) := up_getD b k
      rw [rowAt, rowAt_up L b k (by omega), e, Int.toNat_natCast, List.take_succ_eq_append_getElem (by omega), time_snoc, getD_cons_of (d := 0) (by omega)]
theorem late_le {L : List J4} {v : Int} : ∀ (b : List Nat) (a : Int), lateOf L a b ≤ v ↔ -1000 ≤ v ∧ ∀ k, k < b.length → a + timeL L (b.take (k + 1)) - (L.getD (b.getD k 0) j0).d ≤ v
  | [], a => ⟨fun h => ⟨h, fun k hk => absurd hk (by simp)⟩, fun h => h.1⟩
  | i :: r, a => by
      have ih := late_le (L := L) (v := v) r (a + (L.getD i j0).t)
      rw [lateOf]
      constructor
      · intro h
        obtain ⟨h1, h2⟩ := ih.1 (by omega)
        refine ⟨h1, fun k hk => ?_⟩
        match k, hk with
        | 0, _ => show a + (_ + (0 : Int)) - _ ≤ v; rw [Int.add_zero]; show a + (L.getD i j0).t - (L.getD i j0).d ≤ v; omega
        | k + 1, hk =>
          have h3 := h2 k (by simpa using hk)
          show a + ((L.getD i j0).t + timeL L (r.take (k + 1))) - (L.getD ((i :: r).getD (k + 1) 0) j0).d ≤ v
          rw [show (i :: r).getD (k + 1) 0 = r.getD k 0 by simp]
          omega
      · rintro ⟨h1, h2⟩
        have h3 := h2 0 (by simp)
        have h3' : a + ((L.getD i j0).t + (0 : Int)) - (L.getD i j0).d ≤ v := h3
        have h4 := ih.2 ⟨h1, fun k hk => by
          have h5 := h2 (k + 1) (by simpa using hk)
          have h5' : a + ((L.getD i j0).t + timeL L (r.take (k + 1))) - (L.getD ((i :: r).getD (k + 1) 0) j0).d ≤ v := h5
          rw [show (i :: r).getD (k + 1) 0 = r.getD k 0 by simp] at h5'
          omega⟩
        omega
theorem late_eq {L : List J4} (hL : JobsOk L) {b : List Nat} (ho : ordB (up b) L.length = true) : rdelTo L (rowN L (up b)) L.length = lateOf L 0 b := by
  obtain ⟨h1, h2, h3⟩ := ordB_iff.1 ho
  have hl : b.length = L.length := by rw [← h1, up_length]
  have hpos := hL.pos
  have hmem : ∀ k, k < b.length → b.getD k 0 < L.length := fun k hk => by
    have := h2 ((up b).getD k 0) (by rw [← getD_cons_of (d := (0 : Int)) (by rw [up_length]; exact hk)]; exact List.getElem_mem _)
    rw [up_getD] at this; omega
  have hat : ∀ k, k < b.length → (rowN L (up b)).getD (b.getD k 0) 0 = timeL L (b.take (k + 1)) := fun k hk => by
    have h4 := rowTo_at (L := L) h2 (ord_ne ho) (up b).length (Nat.le_refl _) k (by rw [up_length]; exact hk)
    rw [up_getD, Int.toNat_natCast] at h4
    rw [rowN, h4, rowAt_up L b (k + 1) (by omega)]
  have hX := (rdelTo_le (L := L) (e := rowN L (up b)) (v := rdelTo L (rowN L (up b)) L.length) L.length).1 (Int.le_refl _)
  have hY := (late_le (L := L) (v := lateOf L 0 b) b 0).1 (Int.le_refl _)
  apply Int.le_antisymm
  · refine (rdelTo_le L.length).2 ⟨by omega, fun j hj => ?_⟩
    obtain ⟨k, hk, e⟩ := List.mem_iff_getElem.1 (h3 j hj)
    have hkb : k < b.length := by rw [up_length] at hk; exact hk
    rw [getD_cons_of (d := (0 : Int)) hk, up_getD] at e
    have e2 : b.getD k 0 = j := by omega
    have h4 := hY.2 k hkb
    have h5 := hat k hkb
    rw [e2] at h4 h5
    rw [h5]; omega
  · refine (late_le b 0).2 ⟨?_, fun k hk => ?_⟩
    · have h4 := hX.2 0 hpos
      have h5 := rowTo_bd hL h2 (up b).length (Nat.le_refl _) 0
      have h6 := hL.at_ 0 hpos
      unfold rowN at h4 ⊢
      omega
    · have h4 := hX.2 (b.getD k 0) (hmem k hk)
      rw [hat k hk] at h4
      omega
/-! An order that keeps the befores. -/
theorem okO_ord {L : List J4} {B : Nat → Nat} {b : List Nat} (h : Begun L B b) (hl : b.length = L.length) : ordB (up b) L.length = true := by
  have hmem : ∀ (b : List Nat) (S : Nat), okO L.length B S b → ∀ x ∈ b, x < L.length := fun b => by
    induction b with
    | nil => intro S _ x hx; cases hx
    | cons i r ih =>
      rintro S ⟨h1, _, h3⟩ x hx
      rcases List.mem_cons.1 hx with rfl | hx
      · exact h1
      · exact ih _ h3 x hx
  have hfull : maskL b = 2 ^ L.length - 1 := (card_full h.lt).1 (by rw [h.card, hl])
  have hbits : ∀ (b : List Nat) (S x : Nat), (b.foldl (fun m i => m ||| 2 ^ i) S).testBit x = (S.testBit x || b.contains x) := fun b => by
    induction b with
    | nil => intro S x; simp
    | cons i r ih =>
      intro S x
      rw [List.foldl_cons, ih, or_bit, List.contains_cons]
      by_cases e : i = x
      · subst e; simp
      · have e2 : (x == i) = false := by simp; omega
        rw [e2, decide_eq_false e]; simp
  rw [ordB_iff]
  refine ⟨by rw [up_length, hl], fun x hx => ?_, fun x hx => ?_⟩
  · obtain ⟨y, hy, rfl⟩ := List.mem_map.1 (show x ∈ List.map _ _ from hx)
    have := hmem b 0 h.ok y hy
    show 0 ≤ ((y : Nat) : Int) ∧ ((y : Nat) : Int) < _
    omega
  · have h4 := hbits b 0 x
    have h5 : (maskL b).testBit x = true := by rw [hfull, Nat.testBit_two_pow_sub_one, decide_eq_true hx]
    rw [maskL] at h5
    rw [h5, Nat.zero_testBit, Bool.false_or] at h4
    have : x ∈ b := by simpa using h4.symm
    exact List.mem_map.2 ⟨x, this, rfl⟩
/-- The reference's may. -/
theorem may_iff {P : List (Int × Int)} {n S j : Nat} (hP : prsOk P n = true) : mayB (befB P n) S j = (!S.testBit j && P.all fun p => !(decide (p.2 = (j : Int))) || S.testBit p.1.toNat) := by
  unfold mayB
  congr 1
  rw [Bool.eq_iff_iff, decide_eq_true_iff, List.all_eq_true]
  unfold prsOk at hP
  rw [List.all_eq_true] at hP
  constructor
  · intro h p hp
    have hpp := hP p hp
    unfold prOk at hpp
    rw [decide_eq_true_iff] at hpp
    by_cases e : p.2 = (j : Int)
    · have h1 : (sdiff (befB P n j) S).testBit p.1.toNat = false := by rw [h, Nat.zero_testBit]
      have h2 : (befB P n j).testBit p.1.toNat = true := by
        unfold befB
        rw [testBit_maskF, Bool.and_eq_true, decide_eq_true_iff, List.any_eq_true]
        exact ⟨by omega, p, hp, by rw [decide_eq_true_iff]; exact ⟨by omega, e⟩⟩
      rw [testBit_sdiff, h2, Bool.true_and] at h1
      simp at h1
      rw [h1]; simp
    · rw [decide_eq_false e]; rfl
  · intro h
    apply Nat.eq_of_testBit_eq
    intro x
    rw [testBit_sdiff, Nat.zero_testBit]
    cases hb : (befB P n j).testBit x with
    | false => rfl
    | true =>
      unfold befB at hb
      rw [testBit_maskF, Bool.and_eq_true, decide_eq_true_iff, List.any_eq_true] at hb
      obtain ⟨hx, p, hp, hq⟩ := hb
      rw [decide_eq_true_iff] at hq
      have h1 := h p hp
      rw [decide_eq_true hq.2, Bool.not_true, Bool.false_or, hq.1, Int.toNat_natCast] at h1
      rw [h1]; rfl
end Go.Proofs.Ytiadineakhcclaa
