/-
  turns, plain: what is stable where every shift has one place.
-/
import Derived.Test.YtgognkofnegobaaTurnsG
import Derived.Test.YtgognkofnegobaaBase
namespace Go.Proofs.Ytgognkofnegobaa
open Go.RowKit
set_option linter.unusedVariables false
set_option linter.unusedSimpArgs false

theorem rank_up {l : List Nat} {n s : Nat} (h : Ord l n) (hs : s < n) : rankT (up l) (s : Nat) = (place l s : Int) := by
  rw [rankT, idx_up_mem ((h.mem s).2 hs), if_pos (by omega)]
theorem rank_none {l : List Nat} {n : Nat} (h : Ord l n) : rankT (up l) (-1) = (n : Int) := by
  have h1 : ¬ 0 ≤ idx (up l) (-1) := by
    rw [idx_nonneg]
    intro hm
    simp only [up, List.mem_map] at hm
    obtain ⟨y, _, e⟩ := hm
    omega
  rw [rankT, if_neg h1, up_length, h.len]
theorem mem_hands {S : List (List Nat)} {m : List Int} {s h : Nat} : h ∈ handsN S m s ↔ h ∈ S.getD s [] ∧ m.getD h 0 = (s : Int) := by
  simp only [handsN, List.mem_filter, beq_iff_eq]
section
variable {H S : List (List Nat)} {n : Nat} {m : List Int}
theorem stab_nodup (h : stabB H S n m = true) : noDupB m n = true := by
  rw [stabB, Bool.and_eq_true] at h; exact h.1
theorem stab_noblk (h : stabB H S n m = true) : ∀ a b, a < n → b < n → blkB H S m a b = false := by
  rw [stabB, Bool.and_eq_true] at h
  have h2 := @of_decide_eq_true _ (Classical.propDecidable _) h.2
  exact fun a b ha hb => h2.1 a ha b hb
theorem stab_intro (h1 : noDupB m n = true) (h2 : ∀ a b, a < n → b < n → blkB H S m a b = false) : stabB H S n m = true := by
  rw [stabB, Bool.and_eq_true]
  exact ⟨h1, @decide_eq_true _ (Classical.propDecidable _) ⟨fun a ha b hb => h2 a b ha hb, fun b hb => absurd hb (by omega)⟩⟩
theorem noDup_inj : ∀ k, noDupB m k = true → ∀ i j, i < k → j < k → ∀ s : Nat, m.getD i 0 = (s : Int) → m.getD j 0 = (s : Int) → i = j := by
  have key : ∀ k, noDupB m k = true → ∀ i j, i < j → j < k → ∀ s : Nat, m.getD i 0 = (s : Int) → m.getD j 0 = (s : Int) → False := by
    intro k hk i j hij hj s h1 h2
    have := noDupB_no (n := k) h2 (by
      rw [cntM, if_pos]
      rw [List.any_eq_true]
      exact ⟨i, List.mem_range.2 hij, by rw [h1]; simp⟩) hj
    rw [hk] at this; cases this
  intro k hk i j hi hj s h1 h2
  rcases Nat.lt_trichotomy i j with h | h | h
  · exact (key k hk i j h hj s h1 h2).elim
  · exact h
  · exact (key k hk j i h hi s h2 h1).elim
theorem noDup_of : ∀ k, (∀ i j, i < j → j < k → m.getD i 0 ≠ m.getD j 0) → (∀ i, i < k → ∃ s : Nat, m.getD i 0 = (s : Int)) → noDupB m k = true := by
  intro k
  induction k with
  | zero => intro _ _; rfl
  | succ k ih =>
    intro h1 h2
    obtain ⟨s, hs⟩ := h2 k (by omega)
    show (noDupB m k && (m.getD k 0 == -1 || cntM m k (m.getD k 0).toNat == 0)) = true
    rw [ih (fun i j hij hj => h1 i j hij (by omega)) (fun i hi => h2 i (by omega)), hs, Int.toNat_natCast]
    have : cntM m k s = 0 := by
      rw [cntM, if_neg]
      intro h
      rw [List.any_eq_true] at h
      obtain ⟨i, hi, e⟩ := h
      exact h1 i k (List.mem_range.1 hi) (by omega) (by rw [hs]; exact beq_iff_eq.1 e)
    rw [this]; simp
/-- Whom a hand likes more than what they have: that shift has a hand that it likes at least as much. -/
theorem stab_pair (hS : SqOk S n) (hst : stabB H S n m = true) {h s : Nat} (hh : h < n) (hs : s < n) (hr : rankT (up (H.getD h [])) (s : Nat) < rankT (up (H.getD h [])) (m.getD h 0)) :
    ∃ h', h' < n ∧ m.getD h' 0 = (s : Int) ∧ place (S.getD s []) h' ≤ place (S.getD s []) h := by
  have hb := stab_noblk hst h s hh hs
  rw [blkB, decide_eq_true hr, Bool.true_and, Bool.or_eq_false_iff, decide_eq_false_iff_not, decide_eq_false_iff_not] at hb
  obtain ⟨h1, h2⟩ := hb
  have hmem : (handsN S m s).getD ((handsN S m s).length - 1) 0 ∈ handsN S m s := getD_mem (by omega)
  obtain ⟨h3, h4⟩ := mem_hands.1 hmem
  generalize (handsN S m s).getD ((handsN S m s).length - 1) 0 = g at *
  have hg : g < n := ((hS.rows s hs).mem g).1 h3
  rw [rank_up (hS.rows s hs) hh, rank_up (hS.rows s hs) hg] at h2
  exact ⟨g, hg, h4, by omega⟩
theorem stab_all (hH : SqOk H n) (hS : SqOk S n) (hm : MOk m n) (hst : stabB H S n m = true) : ∀ h, h < n → ∃ s : Nat, s < n ∧ m.getD h 0 = (s : Int) := by
  intro h hh
  rcases hm.at_ h hh with h1 | h1
  · exfalso
    have hex : ∀ s, ∃ h', s < n → h' < n ∧ m.getD h' 0 = (s : Int) := fun s => by
      by_cases hs : s < n
      · obtain ⟨g, h2, h3, _⟩ := stab_pair hS hst hh hs (by
          rw [h1, rank_none (hH.rows h hh), rank_up (hH.rows h hh) hs]
          have := (place_lt (((hH.rows h hh).mem s).2 hs)).1
          rw [(hH.rows h hh).len] at this
          omega)
        exact ⟨g, fun _ => ⟨h2, h3⟩⟩
      · exact ⟨0, fun e => absurd e hs⟩
    obtain ⟨f, hf⟩ := Classical.axiomOfChoice hex
    obtain ⟨k, hk, e⟩ := surj_on (n := n) (f := f) (P := fun k => k < n) (fun k hk => hk) (fun k hk => (hf k hk).1) (fun j k hj hk e => by
      have h2 := (hf j hj).2
      have h3 := (hf k hk).2
      rw [e] at h2
      omega) (y := h) hh
    have := (hf k hk).2
    rw [e, h1] at this
    omega
  · exact h1
/-- Where all shifts like in one order: what is stable is choosing in that order. -/
theorem stab_choose (hW : WOk H n) {o : List Nat} (ho : Ord o n) (hS : SqOk S n) (hSo : ∀ s, s < n → S.getD s [] = o) (hm : MOk m n) (hst : stabB H S n m = true) : m = up (chooseN H o) := by
  have hH : SqOk H n := ⟨hW.len, hW.rows⟩
  have hall := stab_all hH hS hm hst
  have hat : ∀ h, h < n → m.getD h 0 = (((m.getD h 0).toNat : Nat) : Int) ∧ (m.getD h 0).toNat < n := fun h hh => by
    obtain ⟨s, h1, h2⟩ := hall h hh
    rw [h2]; exact ⟨by simp, by simpa using h1⟩
  have hcho : Cho H n (fun h => (m.getD h 0).toNat) (place o) := by
    refine ⟨fun i hi => (hat i hi).2, fun i j hi hj e => ?_, fun i y hi hy hp => ?_⟩
    · refine noDup_inj n (stab_nodup hst) i j hi hj (m.getD i 0).toNat (hat i hi).1 ?_
      have e' : (m.getD i 0).toNat = (m.getD j 0).toNat := e
      rw [e']; exact (hat j hj).1
    · obtain ⟨j, h1, h2, h3⟩ := stab_pair hS hst hi hy (by
        rw [(hat i hi).1, rank_up (hH.rows i hi) (hat i hi).2, rank_up (hH.rows i hi) hy]
        have : place (H.getD i []) y < place (H.getD i []) (m.getD i 0).toNat := hp
        omega)
      rw [hSo y hy] at h3
      refine ⟨j, h1, ?_, by show (m.getD j 0).toNat = y; rw [h2]; simp⟩
      have : j ≠ i := fun e => by
        subst e
        have : place (H.getD j []) y < place (H.getD j []) (m.getD j 0).toNat := hp
        rw [h2, Int.toNat_natCast] at this
        omega
      have h4 : place o j ≠ place o i := fun e => this (place_inj ho h1 hi e)
      omega
  have hu := hcho.unique (chosen_cho hW.len hW.rows ho) hW.rows (fun i j hi hj e => place_inj ho hi hj e)
  apply List.ext_getElem
  · rw [hm.len, up_length, chooseN, hW.len, listF, List.length_map, List.length_range]
  · intro i h1 h2
    have hi : i < n := by rw [← hm.len]; exact h1
    have h3 := (hat i hi).1
    rw [← hu i hi] at h3
    rw [List.getD_eq_getElem?_getD, List.getElem?_eq_getElem h1] at h3
    have h4 : (chooseN H o).length = n := by rw [chooseN, hW.len, listF, List.length_map, List.length_range]
    have e : (up (chooseN H o))[i] = (((chooseN H o)[i]'(by rw [h4]; exact hi) : Nat) : Int) := by simp [up]
    rw [e]
    have e2 : (chooseN H o)[i]'(by rw [h4]; exact hi) = chosen H o i := by simp [chooseN, listF, hW.len]
    rw [e2]
    exact h3
theorem choose_stab (hW : WOk H n) {o : List Nat} (ho : Ord o n) (hS : SqOk S n) (hSo : ∀ s, s < n → S.getD s [] = o) : MOk (up (chooseN H o)) n ∧ stabB H S n (up (chooseN H o)) = true := by
  have hc := chosen_cho hW.len hW.rows ho
  have hat : ∀ i, i < n → (up (chooseN H o)).getD i 0 = (chosen H o i : Int) := fun i hi => by
    rw [up_getD, chooseN, hW.len]
    have : (listF n (chosen H o)).getD i 0 = chosen H o i := by simp [listF, List.getD_eq_getElem?_getD, hi]
    rw [this]
  have hl : (up (chooseN H o)).length = n := by rw [up_length, chooseN, hW.len, listF, List.length_map, List.length_range]
  refine ⟨⟨hl, fun i hi => .inr ⟨_, hc.lt i hi, hat i hi⟩⟩, stab_intro (noDup_of n (fun i j hij hj e => ?_) fun i hi => ⟨_, hat i hi⟩) fun a b ha hb => ?_⟩
  · rw [hat i (by omega), hat j hj] at e
    have := hc.inj i j (by omega) hj (by omega)
    omega
  · cases hblk : blkB H S (up (chooseN H o)) a b with
    | false => rfl
    | true =>
      exfalso
      rw [blkB, Bool.and_eq_true, decide_eq_true_eq, Bool.or_eq_true, decide_eq_true_eq, decide_eq_true_eq, hat a ha, rank_up (hW.rows a ha) hb, rank_up (hW.rows a ha) (hc.lt a ha)] at hblk
      obtain ⟨h1, h2⟩ := hblk
      obtain ⟨j, h3, h4, h5⟩ := hc.pre a b ha hb (by omega)
      have hj : j ∈ handsN S (up (chooseN H o)) b := mem_hands.2 ⟨by rw [hSo b hb]; exact (ho.mem j).2 h3, by rw [hat j h3, h5]⟩
      have hlen := List.length_pos_of_mem hj
      rcases h2 with h2 | h2
      · omega
      · have hmem : (handsN S (up (chooseN H o)) b).getD ((handsN S (up (chooseN H o)) b).length - 1) 0 ∈ handsN S (up (chooseN H o)) b := getD_mem (by omega)
        obtain ⟨h6, h7⟩ := mem_hands.1 hmem
        generalize (handsN S (up (chooseN H o)) b).getD ((handsN S (up (chooseN H o)) b).length - 1) 0 = g at *
        rw [hSo b hb] at h6 h2
        have hg : g < n := (ho.mem g).1 h6
        rw [hat g hg] at h7
        have := hc.inj g j hg h3 (by omega)
        subst this
        rw [rank_up ho ha, rank_up ho hg] at h2
        omega
/-- Where every shift likes best the hand of its own number: every hand has that shift or one that they like more. -/
theorem stab_own (hH : SqOk H n) (hS : SqOk S n) (hS0 : ∀ s, s < n → (S.getD s []).getD 0 0 = s) (hm : MOk m n) (hst : stabB H S n m = true) : ∀ h, h < n → ∃ s : Nat, s < n ∧ m.getD h 0 = (s : Int) ∧ place (H.getD h []) s ≤ place (H.getD h []) h := by
  intro h hh
  obtain ⟨s, hs, e⟩ := stab_all hH hS hm hst h hh
  refine ⟨s, hs, e, ?_⟩
  rcases Nat.lt_or_ge (place (H.getD h []) h) (place (H.getD h []) s) with h1 | h1
  · exfalso
    obtain ⟨g, h2, h3, h4⟩ := stab_pair hS hst hh hh (by
      rw [e, rank_up (hH.rows h hh) hs, rank_up (hH.rows h hh) hh]
      omega)
    have h5 : place (S.getD h []) h ≤ 0 := place_first (by rw [(hS.rows h hh).len]; omega) (hS0 h hh)
    have := place_inj (hS.rows h hh) h2 hh (by omega)
    subst this
    have : s = g := by omega
    subst this
    omega
  · exact h1
theorem stab_inj (hst : stabB H S n m = true) : ∀ i j, i < n → j < n → ∀ s : Nat, m.getD i 0 = (s : Int) → m.getD j 0 = (s : Int) → i = j := noDup_inj n (stab_nodup hst)
end

theorem mem_enumM {n : Nat} : ∀ (d : Nat) (p q : List Int), q ∈ enumM n d p ↔ ∃ t, q = p ++ t ∧ t.length = d ∧ ∀ x ∈ t, ∃ k : Nat, k ≤ n ∧ x = (k : Int) - 1
  | 0, p, q => by
    rw [enumM, List.mem_singleton]
    constructor
    · rintro rfl; exact ⟨[], by simp, rfl, fun x hx => by cases hx⟩
    · rintro ⟨t, rfl, ht, _⟩
      rw [List.length_eq_zero_iff.1 ht, List.append_nil]
  | d + 1, p, q => by
    rw [enumM, List.mem_flatMap]
    constructor
    · rintro ⟨k, hk, hq⟩
      obtain ⟨t, rfl, ht, hx⟩ := (mem_enumM d _ q).1 hq
      have := List.mem_range.1 hk
      refine ⟨((k : Int) - 1) :: t, by simp, by simp [ht], fun x h => ?_⟩
      rcases List.mem_cons.1 h with rfl | h
      · exact ⟨k, by omega, rfl⟩
      · exact hx x h
    · rintro ⟨t, rfl, ht, hx⟩
      cases t with
      | nil => simp at ht
      | cons x t =>
        obtain ⟨k, hk, rfl⟩ := hx x (by simp)
        refine ⟨k, List.mem_range.2 (by omega), (mem_enumM d _ _).2 ⟨t, by simp, by simpa using ht, fun y hy => hx y (by simp [hy])⟩⟩
theorem nodup_enumM {n : Nat} : ∀ (d : Nat) (p : List Int), (enumM n d p).Nodup
  | 0, p => by rw [enumM]; simp
  | d + 1, p => by
    rw [enumM]
    unfold List.Nodup
    rw [List.pairwise_flatMap]
    refine ⟨fun k _ => nodup_enumM d _, ?_⟩
    refine List.Pairwise.imp ?_ (List.nodup_range (n := n + 1))
    intro a b hab x hx y hy e
    subst e
    obtain ⟨t, h1, _, _⟩ := (mem_enumM d _ _).1 hx
    obtain ⟨t', h2, _, _⟩ := (mem_enumM d _ _).1 hy
    rw [h1, List.append_assoc, List.append_assoc] at h2
    have := List.append_cancel_left h2
    simp at this
    omega
theorem enum_mok {n : Nat} {q : List Int} : q ∈ enumM n n [] ↔ MOk q n := by
  rw [mem_enumM]
  constructor
  · rintro ⟨t, e, ht, hx⟩
    rw [List.nil_append] at e
    subst e
    refine ⟨ht, fun i hi => ?_⟩
    obtain ⟨k, hk, e⟩ := hx (q.getD i 0) (getD_mem (by rw [ht]; exact hi))
    by_cases h0 : k = 0
    · exact .inl (by omega)
    · exact .inr ⟨k - 1, by omega, by omega⟩
  · intro h
    refine ⟨q, rfl, h.len, fun x hx => ?_⟩
    obtain ⟨i, hi, e⟩ := List.getElem_of_mem hx
    have hg : q.getD i 0 = x := by rw [List.getD_eq_getElem?_getD, List.getElem?_eq_getElem hi]; exact e
    rcases h.at_ i (by rw [← h.len]; exact hi) with h1 | ⟨s, hs, h1⟩
    · exact ⟨0, by omega, by omega⟩
    · exact ⟨s + 1, by omega, by omega⟩
theorem filter_single {α : Type} {p : α → Bool} {a : α} : ∀ (l : List α), l.Nodup → a ∈ l → (∀ x ∈ l, p x = true ↔ x = a) → l.filter p = [a]
  | [], _, h, _ => by cases h
  | x :: l, hn, ha, hp => by
    rw [List.nodup_cons] at hn
    by_cases e : x = a
    · subst e
      rw [List.filter_cons_of_pos ((hp x (by simp)).2 rfl)]
      congr 1
      rw [List.filter_eq_nil_iff]
      intro y hy h
      have := (hp y (by simp [hy])).1 h
      subst this
      exact hn.1 hy
    · rw [List.filter_cons_of_neg (fun h => e ((hp x (by simp)).1 h))]
      refine filter_single l hn.2 ?_ fun y hy => hp y (by simp [hy])
      rcases List.mem_cons.1 ha with h | h
      · exact absurd h.symm e
      · exact h
/-- All stable matchings where all shifts like in one order. -/
theorem stable_choose {H S : List (List Nat)} {n : Nat} (hW : WOk H n) {o : List Nat} (ho : Ord o n) (hS : SqOk S n) (hSo : ∀ s, s < n → S.getD s [] = o) : (enumM n n []).filter (stabB H S n) = [up (chooseN H o)] := by
  obtain ⟨h1, h2⟩ := choose_stab hW ho hS hSo
  refine filter_single _ (nodup_enumM n []) (enum_mok.2 h1) fun q hq => ⟨fun h => stab_choose hW ho hS hSo (enum_mok.1 hq) h, fun e => by rw [e]; exact h2⟩
end Go.Proofs.Ytgognkofnegobaa
