/-
  Where all first wishes are different, plain.
-/
import Derived.Test.YtilnbiaabhdfgaaLawSwapHonest
namespace Go.Proofs.Ytilnbiaabhdfgaa
open Go.RowKit
set_option linter.unusedVariables false
set_option linter.unusedSimpArgs false

def firstF (W : List (List Nat)) (i : Nat) : Nat := (W.getD i []).getD 0 0
def firstL (W : List (List Nat)) (n : Nat) : List Nat := (List.range n).map (firstF W)
theorem firstL_at {W : List (List Nat)} {n i : Nat} (hi : i < n) : (firstL W n).getD i 0 = firstF W i := by simp [firstL, List.getD_eq_getElem?_getD, hi]
theorem firstL_take {W : List (List Nat)} {n k : Nat} (hk : k < n) : (firstL W n).take (k + 1) = (firstL W n).take k ++ [firstF W k] := by
  rw [List.take_succ_eq_append_getElem (by simpa [firstL] using hk)]
  simp [firstL]
section
variable {W : List (List Nat)} {n : Nat}
theorem firstF_lt (hW : WOk W n) {i : Nat} (hi : i < n) : firstF W i < n := (hW.rows i hi).getD_lt (by have := hW.pos; omega)
theorem first_place (hW : WOk W n) {i : Nat} (hi : i < n) : place (W.getD i []) (firstF W i) = 0 := by
  have := place_first (l := W.getD i []) (i := 0) (g := firstF W i) (by rw [(hW.rows i hi).len]; have := hW.pos; omega) rfl
  omega
variable (hW : WOk W n) (hd : ∀ i j, i < n → j < n → firstF W i = firstF W j → i = j)
include hW hd
theorem first_trade : tradeN W = firstL W n := by
  have ht : Ttc W n (firstF W) (fun _ => 0) := ⟨fun i hi => firstF_lt hW hi, hd, fun _ _ => rfl, fun i y hi hy h => by rw [first_place hW hi] at h; omega⟩
  apply ord_ext (tradeN_ord hW).len (by simp [firstL])
  intro i hi
  rw [tradeN_at hW hi, firstL_at hi]
  exact hW.ttc.unique ht hW.rows i hi
theorem first_choose {d : List Nat} (ho : Ord d n) : chooseN W d = firstL W n := by
  have hc : Cho W n (firstF W) (place d) := ⟨fun i hi => firstF_lt hW hi, hd, fun i y hi hy h => by rw [first_place hW hi] at h; omega⟩
  apply ord_ext (chooseN_ord hW ho).len (by simp [firstL])
  intro i hi
  rw [chooseN_at hW d hi, firstL_at hi]
  exact hc.unique (hW.cho ho) hW.rows (place_ord ho) i hi
theorem first_askTo : ∀ k, k ≤ n → (∀ j, j < n → (askTo W (2 ^ n - 1) (fun _ => -1) k).1 j = if j < k then (firstF W j : Int) else -1) ∧ ∀ g, (askTo W (2 ^ n - 1) (fun _ => -1) k).2.testBit g = true ↔ ∃ j, j < k ∧ firstF W j = g := by
  intro k
  induction k with
  | zero => intro _; exact ⟨fun j _ => by simp [askTo], fun g => by simp [askTo]⟩
  | succ k ih =>
    intro hk
    obtain ⟨h1, h2⟩ := ih (by omega)
    have hkn : k < n := by omega
    rw [askTo_succ]
    have hb : best (W.getD k []) (2 ^ n - 1) = firstF W k := by
      have hl := (hW.rows k hkn).len
      exact best_at (k := 0) (by rw [hl]; omega) (by rw [full_bit]; exact decide_eq_true (firstF_lt hW hkn)) (fun j hj => by omega)
    have hneg : ¬ 0 ≤ (askTo W (2 ^ n - 1) (fun _ => -1) k).1 k := by rw [h1 k hkn, if_neg (by omega)]; omega
    have hno : (askTo W (2 ^ n - 1) (fun _ => -1) k).2.testBit (firstF W k) = false := by
      cases h : (askTo W (2 ^ n - 1) (fun _ => -1) k).2.testBit (firstF W k) with
      | false => rfl
      | true => obtain ⟨j, hj, e⟩ := (h2 _).1 h; have := hd j k (by omega) hkn e; omega
    unfold askStep
    rw [if_neg hneg, hb, hno]
    simp only [Bool.false_eq_true, if_false]
    refine ⟨fun j hj => ?_, fun g => ?_⟩
    · by_cases e : j = k
      · subst e; simp
      · rw [if_neg e, h1 j hj]
        by_cases h : j < k
        · rw [if_pos h, if_pos (by omega)]
        · rw [if_neg h, if_neg (by omega)]
    · rw [Nat.testBit_or, Bool.or_eq_true, h2 g, Nat.testBit_two_pow, decide_eq_true_eq]
      constructor
      · rintro (⟨j, hj, e⟩ | e)
        · exact ⟨j, by omega, e⟩
        · exact ⟨k, by omega, e⟩
      · rintro ⟨j, hj, e⟩
        by_cases e2 : j = k
        · right; rw [← e2]; exact e
        · exact .inl ⟨j, by omega, e⟩
omit hd hW in
theorem askF_done {T : Nat} {out : Nat → Int} (h : ∀ i, i < n → 0 ≤ out i) : ∀ f T, askF W n f T out = out := by
  intro f
  induction f with
  | zero => intro T; rfl
  | succ f ih =>
    intro T
    by_cases h0 : T = 0
    · simp [askF, h0]
    · have e : askF W n (f + 1) T out = askF W n f (sdiff T (askTo W T out n).2) (askTo W T out n).1 := by simp [askF, h0]
      rw [e, askTo_zero h n (Nat.le_refl _)]
      exact ih _
theorem first_ask : askedN W = firstL W n := by
  have h1 := hW.pos
  obtain ⟨m, rfl⟩ : ∃ m, n = m + 1 := ⟨n - 1, by omega⟩
  have hf : ∀ j, j < m + 1 → (askTo W (2 ^ (m + 1) - 1) (fun _ => -1) (m + 1)).1 j = (firstF W j : Int) := fun j hj => by
    rw [(first_askTo hW hd (m + 1) (Nat.le_refl _)).1 j hj, if_pos hj]
  have e : ∀ i, i < m + 1 → asked W (m + 1) i = (firstF W i : Int) := fun i hi => by
    have h0 : (2 ^ (m + 1) - 1 : Nat) ≠ 0 := by have := Nat.two_pow_pos m; rw [Nat.pow_succ]; omega
    have : asked W (m + 1) = (askTo W (2 ^ (m + 1) - 1) (fun _ => -1) (m + 1)).1 := by
      rw [asked, askF_step hW.rows (ask_start (m + 1))]
      exact askF_done (T := 0) (fun i hi => by rw [hf i hi]; omega) _ _
    rw [this, hf i hi]
  apply ord_ext (n := m + 1) (by simp [askedN, listF, hW.len]) (by simp [firstL])
  intro i hi
  rw [firstL_at hi]
  have : (askedN W).getD i 0 = (asked W (m + 1) i).toNat := by simp [askedN, listF, hW.len, List.getD_eq_getElem?_getD, hi]
  rw [this, e i hi]; simp
omit hd in
theorem lie_first {f : List (List Nat) → List Nat} (hf : f W = firstL W n) {i : Nat} (hi : i < n) : lieN f W n i = none := by
  rw [lieN, List.find?_eq_none]
  intro l _
  simp only [lieP, decide_eq_true_eq, hf, firstL_at hi, first_place hW hi]; omega
theorem rules_first {k : Nat} (hk : k < 3) : ∃ f, OutOk k n f ∧ ∀ i, i < n → lieN f W n i = none := by
  rcases (by omega : k = 0 ∨ k = 1 ∨ k = 2) with rfl | rfl | rfl
  · exact ⟨tradeN, out_trading n, fun i hi => lie_first hW (first_trade hW hd) hi⟩
  · exact ⟨firstN, out_choosing n, fun i hi => lie_first hW (by rw [firstN, hW.len]; exact first_choose hW hd (ord_range n)) hi⟩
  · exact ⟨askedN, out_asking n, fun i hi => lie_first hW (first_ask hW hd) hi⟩
end
end Go.Proofs.Ytilnbiaabhdfgaa
