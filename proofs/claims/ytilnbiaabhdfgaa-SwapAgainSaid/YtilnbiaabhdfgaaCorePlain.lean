/-
  Groups that object, plain: none to trading, some to everything else.
-/
import Derived.Test.YtilnbiaabhdfgaaObjectsApi
import Derived.Test.YtilnbiaabhdfgaaParetoPlain
namespace Go.Proofs.Ytilnbiaabhdfgaa
open Go.RowKit
set_option linter.unusedVariables false
set_option linter.unusedSimpArgs false

section
variable {W : List (List Nat)} {n : Nat} {o : List Nat}
theorem closedB_iff {M : Nat} {y : List Nat} : closedB M y n = true ↔ ∀ i, i < n → M.testBit i = M.testBit (y.getD i 0) := by simp [closedB]
theorem objectsB_iff {M : Nat} : objectsB W n M o = true ↔ ∃ y, Ord y n ∧ (∀ i, i < n → M.testBit i = M.testBit (y.getD i 0)) ∧ impr W n M y o = true := by
  simp only [objectsB, List.any_eq_true, objP, Bool.and_eq_true, mem_ordsN, closedB_iff]
theorem objectsN_eq_none : objectsN W n o = none ↔ ∀ k M, k < n → M < 2 ^ n → objHit W n o (k + 1) M = false := by
  rw [objectsN, List.findSome?_eq_none_iff]
  simp only [List.mem_range, objIn, find_range_none]
  exact ⟨fun h k M hk hM => h k hk M hM, fun h k hk M hM => h k M hk hM⟩
theorem objectsN_eq_some {M : Nat} (h : objectsN W n o = some M) : ∃ k, k < n ∧ M < 2 ^ n ∧ objHit W n o (k + 1) M = true := by
  rw [objectsN, List.findSome?_eq_some_iff] at h
  obtain ⟨l1, k, l2, hl, h1, _⟩ := h
  have hk : k < n := by
    have : k ∈ List.range n := by rw [hl]; simp
    exact List.mem_range.1 this
  rw [objIn, find_range_some] at h1
  exact ⟨k, hk, h1.1, h1.2.1⟩
theorem cardF_zero (n : Nat) : cardF n 0 = 0 := by
  induction n with
  | zero => rfl
  | succ n ih => simp [cardF, ih]
theorem objectsN_pos {M : Nat} (h : objectsN W n o = some M) : 0 < M := by
  obtain ⟨k, hk, hM, hh⟩ := objectsN_eq_some h
  simp only [objHit, Bool.and_eq_true, decide_eq_true_eq] at hh
  rcases Nat.eq_zero_or_pos M with e | e
  · subst e; rw [cardF_zero] at hh; omega
  · exact e
theorem cardF_top {n m M : Nat} (h : M < 2 ^ n) (hm : n ≤ m) : cardF m M = cardF n M := by
  induction m with
  | zero => obtain rfl : n = 0 := by omega
            rfl
  | succ m ih =>
    by_cases e : n = m + 1
    · rw [e]
    · have hb : M.testBit m = false := Nat.testBit_lt_two_pow (Nat.lt_of_lt_of_le h (Nat.pow_le_pow_right (by decide) (by omega)))
      simp only [cardF, hb, ih (by omega)]
      simp
theorem cardF_some {n M i : Nat} (hi : i < n) (hb : M.testBit i = true) : 0 < cardF n M := by
  induction n with
  | zero => omega
  | succ n ih =>
    simp only [cardF]
    by_cases e : i = n
    · subst e; simp [hb]
    · have := ih (by omega); omega

/-- Nobody objects to what the rule gives. -/
theorem ttc_no_objection (hW : WOk W n) {t r : Nat → Nat} (ht : Ttc W n t r) (ho : ∀ i, i < n → o.getD i 0 = t i) : objectsN W n o = none := by
  rw [objectsN_eq_none]
  intro k M hk hM
  have : objectsB W n M o = false := by
    cases h : objectsB W n M o with
    | false => rfl
    | true =>
      exfalso
      obtain ⟨y, hy, hc, hi⟩ := objectsB_iff.1 h
      obtain ⟨h1, i, hi, hb, h2⟩ := impr_iff.1 hi
      have := ht.no_block hW.rows (S := fun k => k < n ∧ M.testBit k = true) (x := fun i => y.getD i 0) (fun k hk => hk.1) (fun k hk => ⟨hy.getD_lt hk.1, by rw [← hc k hk.1]; exact hk.2⟩) (fun j k hj hk e => hy.inj j k hj.1 hk.1 e)
        (fun k hk => by have := h1 k hk.1 hk.2; rwa [ho k hk.1] at this) i ⟨hi, hb⟩
      rw [ho i hi, ← this] at h2
      omega
  simp [objHit, this]
/-- Somebody objects to everything else. -/
theorem ttc_objection (hW : WOk W n) {t r : Nat → Nat} (ht : Ttc W n t r) (ho : Ord o n) {i : Nat} (hi : i < n) (hne : o.getD i 0 ≠ t i) : objectsN W n o ≠ none := by
  intro hnone
  rw [objectsN_eq_none] at hnone
  obtain ⟨m, ⟨k, hk, hkm, hkne⟩, hb⟩ := ht.objects (o := fun i => o.getD i 0) (fun i hi => ho.getD_lt hi) ho.inj hi hne
  obtain ⟨M, hMM⟩ : ∃ M, M = maskF n (fun k => decide (r k = m)) := ⟨_, rfl⟩
  have hbit : ∀ i, i < n → M.testBit i = decide (r i = m) := fun i hi => by rw [hMM, testBit_maskF]; simp [hi]
  have hlt : M < 2 ^ n := by rw [hMM]; exact maskF_lt n _
  obtain ⟨f, hf⟩ : ∃ f : Nat → Nat, f = fun i => if r i = m then t i else i := ⟨_, rfl⟩
  have hft : ∀ i, r i = m → f i = t i := fun i h => by rw [hf]; simp [h]
  have hfi : ∀ i, r i ≠ m → f i = i := fun i h => by rw [hf]; simp [h]
  have hflt : ∀ i, i < n → f i < n := fun i hi => by
    by_cases h : r i = m
    · rw [hft i h]; exact ht.lt i hi
    · rw [hfi i h]; exact hi
  have hfr : ∀ i, i < n → (r (f i) = m ↔ r i = m) := fun i hi => by
    by_cases h : r i = m
    · rw [hft i h, ht.same i hi]
    · rw [hfi i h]
  have hinj : ∀ i j, i < n → j < n → f i = f j → i = j := fun i j hi hj e => by
    have h1 := hfr i hi
    have h2 := hfr j hj
    rw [e] at h1
    have h3 : r i = m ↔ r j = m := h1.symm.trans h2
    by_cases h : r i = m
    · rw [hft i h, hft j (h3.1 h)] at e; exact ht.inj i j hi hj e
    · rw [hfi i h, hfi j (fun h' => h (h3.2 h'))] at e; exact e
  have hobj : objectsB W n M o = true := by
    rw [objectsB_iff]
    refine ⟨listF n f, ord_listF hflt hinj, fun i hi => ?_, ?_⟩
    · rw [listF_at n f hi, hbit i hi, hbit _ (hflt i hi)]
      have := hfr i hi
      by_cases h : r i = m
      · rw [decide_eq_true h, decide_eq_true (this.2 h)]
      · rw [decide_eq_false h, decide_eq_false (fun h' => h (this.1 h'))]
    · rw [impr_iff]
      refine ⟨fun i hi hbi => ?_, k, hk, ?_, ?_⟩
      · rw [hbit i hi] at hbi
        have h := of_decide_eq_true hbi
        rw [listF_at n f hi, hft i h]
        exact hb i hi h
      · rw [hbit k hk]; exact decide_eq_true hkm
      · rw [listF_at n f hk, hft k hkm]
        have h1 := hb k hk hkm
        have h2 : place (W.getD k []) (t k) ≠ place (W.getD k []) (o.getD k 0) := fun e => hkne (place_inj (hW.rows k hk) (ht.lt k hk) (ho.getD_lt hk) e).symm
        have h3 : (fun i => o.getD i 0) k = o.getD k 0 := rfl
        omega
  have hcard : 0 < cardF n M := cardF_some hk (by rw [hbit k hk]; exact decide_eq_true hkm)
  have hcle := cardF_le n M
  have := hnone (cardF n M - 1) M (by omega) hlt
  rw [objHit, hobj, cardF_top hlt hW.le, show cardF n M - 1 + 1 = cardF n M from by omega] at this
  simp at this
theorem core_trade (hW : WOk W n) : objectsN W n (tradeN W) = none := ttc_no_objection hW hW.ttc (fun i hi => tradeN_at hW hi)
theorem core_other (hW : WOk W n) (ho : Ord o n) : objectsN W n o = none ↔ tradeN W = o := by
  constructor
  · intro h
    refine ord_ext (tradeN_ord hW).len ho.len (fun i hi => ?_)
    rw [tradeN_at hW hi]
    apply Classical.byContradiction
    intro hne
    exact ttc_objection hW hW.ttc ho hi (fun e => hne e.symm) h
  · rintro rfl; exact core_trade hW
end
end Go.Proofs.Ytilnbiaabhdfgaa
