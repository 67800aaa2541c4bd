/-
  Better outcomes, plain: what choosing gives, nothing is better than; what nothing is better than, choosing gives; and trading.
-/
import Derived.Test.YtilnbiaabhdfgaaOrder
import Derived.Test.YtilnbiaabhdfgaaBase
namespace Go.Proofs.Ytilnbiaabhdfgaa
open Go.RowKit
set_option linter.unusedVariables false
set_option linter.unusedSimpArgs false

theorem listF_length (n : Nat) (f : Nat → Nat) : (listF n f).length = n := by simp [listF]
theorem listF_at (n : Nat) (f : Nat → Nat) {i : Nat} (h : i < n) : (listF n f).getD i 0 = f i := by simp [listF, List.getD_eq_getElem?_getD, h]
/-- What is injective below n, as a list, is an order. -/
theorem ord_listF {n : Nat} {f : Nat → Nat} (hlt : ∀ i, i < n → f i < n) (hinj : ∀ i j, i < n → j < n → f i = f j → i = j) : Ord (listF n f) n := by
  refine ⟨listF_length n f, fun g => ?_⟩
  simp only [listF, List.mem_map, List.mem_range]
  constructor
  · rintro ⟨i, hi, rfl⟩; exact hlt i hi
  · intro hg
    exact surj_on (n := n) (f := f) (P := fun i => i < n) (fun k hk => hk) hlt (fun j k hj hk e => hinj j k hj hk e) hg
theorem ord_ext {a b : List Nat} {n : Nat} (ha : a.length = n) (hb : b.length = n) (h : ∀ i, i < n → a.getD i 0 = b.getD i 0) : a = b := by
  apply List.ext_getElem (by rw [ha, hb])
  intro i h1 h2
  have := h i (by omega)
  simpa [List.getD_eq_getElem?_getD, h1, h2] using this
theorem tradeN_at {W : List (List Nat)} {n i : Nat} (h : WOk W n) (hi : i < n) : (tradeN W).getD i 0 = (traded W (List.range n)).1 i := by
  rw [tradeN, h.len, listF_at n _ hi]
theorem WOk.ttc {W : List (List Nat)} {n : Nat} (h : WOk W n) : Ttc W n (traded W (List.range n)).1 (traded W (List.range n)).2 := (h.mkt (ord_range n)).ttc
theorem tradeN_ord {W : List (List Nat)} {n : Nat} (h : WOk W n) : Ord (tradeN W) n := by
  rw [tradeN, h.len]; exact ord_listF h.ttc.lt h.ttc.inj
theorem chooseN_at {W : List (List Nat)} {n i : Nat} (h : WOk W n) (l : List Nat) (hi : i < n) : (chooseN W l).getD i 0 = chosen W l i := by
  rw [chooseN, h.len, listF_at n _ hi]
theorem WOk.cho {W : List (List Nat)} {n : Nat} (h : WOk W n) {l : List Nat} (hl : Ord l n) : Cho W n (chosen W l) (place l) := chosen_cho h.len h.rows hl
theorem chooseN_ord {W : List (List Nat)} {n : Nat} (h : WOk W n) {l : List Nat} (hl : Ord l n) : Ord (chooseN W l) n := by
  rw [chooseN, h.len]; exact ord_listF (h.cho hl).lt (h.cho hl).inj

theorem impr_iff {W : List (List Nat)} {n M : Nat} {now was : List Nat} : impr W n M now was = true ↔
    (∀ i, i < n → M.testBit i = true → place (W.getD i []) (now.getD i 0) ≤ place (W.getD i []) (was.getD i 0)) ∧ ∃ i, i < n ∧ M.testBit i = true ∧ place (W.getD i []) (now.getD i 0) < place (W.getD i []) (was.getD i 0) := by
  simp only [impr, noLess, someMore, Bool.and_eq_true, List.all_eq_true, List.any_eq_true, List.mem_range, Bool.or_eq_true, Bool.not_eq_true', decide_eq_true_eq]
  constructor
  · rintro ⟨h1, i, hi, h2, h3⟩
    refine ⟨fun i hi hM => ?_, i, hi, h2, h3⟩
    rcases h1 i hi with h | h
    · rw [h] at hM; cases hM
    · exact h
  · rintro ⟨h1, i, hi, h2, h3⟩
    refine ⟨fun i hi => ?_, i, hi, h2, h3⟩
    cases hM : M.testBit i with
    | false => exact .inl rfl
    | true => exact .inr (h1 i hi hM)
theorem impr_full {W : List (List Nat)} {n : Nat} {now was : List Nat} : impr W n (2 ^ n - 1) now was = true ↔
    (∀ i, i < n → place (W.getD i []) (now.getD i 0) ≤ place (W.getD i []) (was.getD i 0)) ∧ ∃ i, i < n ∧ place (W.getD i []) (now.getD i 0) < place (W.getD i []) (was.getD i 0) := by
  rw [impr_iff]
  constructor
  · rintro ⟨h1, i, hi, _, h3⟩; exact ⟨fun i hi => h1 i hi (by rw [full_bit]; simpa using hi), i, hi, h3⟩
  · rintro ⟨h1, i, hi, h3⟩; exact ⟨fun i hi _ => h1 i hi, i, hi, by rw [full_bit]; simpa using hi, h3⟩

theorem betterN_none {W : List (List Nat)} {n : Nat} {o : List Nat} : betterN W n o = none ↔ ∀ y, Ord y n → impr W n (2 ^ n - 1) y o = false := by
  rw [betterN, List.find?_eq_none]
  constructor
  · intro h y hy; have := h y (mem_ordsN.2 hy); simpa using this
  · intro h y hy; have := h y (mem_ordsN.1 hy); simpa using this
theorem betterN_some {W : List (List Nat)} {n : Nat} {o a : List Nat} (h : betterN W n o = some a) : Ord a n ∧ impr W n (2 ^ n - 1) a o = true :=
  ⟨mem_ordsN.1 (List.mem_of_find?_eq_some h), by simpa using List.find?_some h⟩
theorem orderN_none {W : List (List Nat)} {n : Nat} {o : List Nat} : orderN W n o = none ↔ ∀ y, Ord y n → chooseN W y ≠ o := by
  rw [orderN, List.find?_eq_none]
  constructor
  · intro h y hy; have := h y (mem_ordsN.2 hy); simpa using this
  · intro h y hy; have := h y (mem_ordsN.1 hy); simpa using this
theorem orderN_some {W : List (List Nat)} {n : Nat} {o a : List Nat} (h : orderN W n o = some a) : Ord a n ∧ chooseN W a = o :=
  ⟨mem_ordsN.1 (List.mem_of_find?_eq_some h), by simpa using List.find?_some h⟩

section
variable {W : List (List Nat)} {n : Nat}
/-- Nothing is better than what choosing gives. -/
theorem choose_best (hW : WOk W n) {l : List Nat} (hl : Ord l n) : betterN W n (chooseN W l) = none := by
  rw [betterN_none]
  intro y hy
  cases h : impr W n (2 ^ n - 1) y (chooseN W l) with
  | false => rfl
  | true =>
    exfalso
    obtain ⟨h1, i, hi, h2⟩ := impr_full.1 h
    have := (hW.cho hl).no_better hW.rows (x := fun i => y.getD i 0) (fun i hi => hy.getD_lt hi) hy.inj (fun i hi => by have := h1 i hi; rwa [chooseN_at hW l hi] at this) i hi
    rw [chooseN_at hW l hi, ← this] at h2
    omega
/-- Nothing is better than trading. -/
theorem trade_best (hW : WOk W n) : betterN W n (tradeN W) = none := by
  rw [betterN_none]
  intro y hy
  cases h : impr W n (2 ^ n - 1) y (tradeN W) with
  | false => rfl
  | true =>
    exfalso
    obtain ⟨h1, i, hi, h2⟩ := impr_full.1 h
    have := hW.ttc.no_block hW.rows (S := fun k => k < n) (x := fun i => y.getD i 0) (fun k hk => hk) (fun i hi => hy.getD_lt hi) (fun j k hj hk e => hy.inj j k hj hk e) (fun i hi => by have := h1 i hi; rwa [tradeN_at hW hi] at this) i hi
    rw [tradeN_at hW hi, ← this] at h2
    omega
/-- Nothing is better exactly if choosing in some order gives it. -/
theorem better_or_order (hW : WOk W n) {o : List Nat} (ho : Ord o n) : (betterN W n o = none ∧ ∃ l, orderN W n o = some l) ∨ (∃ a, betterN W n o = some a) ∧ orderN W n o = none := by
  cases hr : orderN W n o with
  | some l =>
    obtain ⟨h1, h2⟩ := orderN_some hr
    exact .inl ⟨by rw [← h2]; exact choose_best hW h1, l, rfl⟩
  | none =>
    refine .inr ⟨?_, rfl⟩
    cases hb : betterN W n o with
    | some a => exact ⟨a, rfl⟩
    | none =>
      exfalso
      rw [betterN_none] at hb
      obtain ⟨l, hl, he⟩ := pareto_order hW.len hW.rows ho (fun x hlt hinj hle i hi => by
        have hx : Ord (listF n x) n := ord_listF hlt hinj
        have h := hb _ hx
        apply Classical.byContradiction
        intro hne
        have : impr W n (2 ^ n - 1) (listF n x) o = true := by
          rw [impr_full]
          refine ⟨fun i hi => by rw [listF_at n _ hi]; exact hle i hi, i, hi, ?_⟩
          rw [listF_at n _ hi]
          have h1 := hle i hi
          have h2 : place (W.getD i []) (x i) ≠ place (W.getD i []) (o.getD i 0) := fun e => hne (place_inj (hW.rows i hi) (hlt i hi) (ho.getD_lt hi) e)
          omega
        rw [h] at this
        cases this)
      exact (orderN_none.1 hr) l hl (ord_ext (by rw [chooseN, listF_length]; exact hW.len) ho.len (fun i hi => by rw [chooseN_at hW l hi]; exact he i hi))
end
end Go.Proofs.Ytilnbiaabhdfgaa
