/-
  VotePeaks, plain: the first places counted along the axis; the ballots of a part, one left out.
-/
import Derived.Test.YtejijddfepgnkaaBendPlain
namespace Go.Proofs.Ytejijddfepgnkaa
open Go.RowKit
set_option linter.unusedVariables false
set_option linter.unusedSimpArgs false

/-- How many first places lie before j. -/
def leTo (W : List (List Nat)) (o : List Nat) (j : Nat) : Nat := W.countP fun b => decide (pk o b < j)
/-- How many of the first t ballots have the j-th of the axis first. -/
def atTo (W : List (List Nat)) (o : List Nat) (j t : Nat) : Nat := (W.take t).countP fun b => decide (b.getD 0 0 = o.getD j 0)
theorem leTo_zero (W : List (List Nat)) (o : List Nat) : leTo W o 0 = 0 := by
  rw [leTo, List.countP_eq_zero]
  intro b _
  simp
theorem leTo_succ (W : List (List Nat)) (o : List Nat) (j : Nat) : leTo W o (j + 1) = leC W o j := by
  rw [leTo, leC]
  congr 1
  funext b
  congr 1
  exact propext ⟨fun h => by omega, fun h => by omega⟩
theorem leTo_le (W : List (List Nat)) (o : List Nat) (j : Nat) : leTo W o j ≤ W.length := List.countP_le_length
theorem atTo_le (W : List (List Nat)) (o : List Nat) (j t : Nat) : atTo W o j t ≤ t := Nat.le_trans List.countP_le_length (by rw [List.length_take]; omega)
theorem atTo_succ {W : List (List Nat)} {o : List Nat} {j t : Nat} (h : t < W.length) : atTo W o j (t + 1) = atTo W o j t + if (W.getD t []).getD 0 0 = o.getD j 0 then 1 else 0 := by
  rw [atTo, List.take_succ_eq_append_getElem h, List.countP_append, ← atTo]
  congr 1
  have : W[t] = W.getD t [] := by rw [List.getD_eq_getElem?_getD, List.getElem?_eq_getElem h]; rfl
  rw [this]
  simp only [List.countP_cons, List.countP_nil, decide_eq_true_eq, Nat.zero_add]
theorem atTo_all {W : List (List Nat)} {v n : Nat} {o : List Nat} {j : Nat} (hW : BOk W v n) (ho : Ord o n) (hj : j < n) : leTo W o j + atTo W o j v = leTo W o (j + 1) := by
  have hrow := hW.mem
  have hn := hW.npos
  rw [atTo, ← hW.len, List.take_length]
  clear hW
  unfold leTo
  induction W with
  | nil => rfl
  | cons b W ih =>
    have ih' := ih fun l hl => hrow l (List.mem_cons_of_mem _ hl)
    have hb := hrow b (List.mem_cons_self ..)
    obtain ⟨h1, h2⟩ := pk_spec ho hb hn
    simp only [List.countP_cons, decide_eq_true_eq]
    have e : b.getD 0 0 = o.getD j 0 ↔ pk o b = j := by
      constructor
      · intro h
        rw [← h2] at h
        exact ho.inj _ _ h1 hj h
      · rintro rfl; exact h2.symm
    by_cases g : pk o b = j
    · rw [if_neg (by omega), if_pos (e.2 g), if_pos (by omega)]
      omega
    · rw [if_neg (fun h => g (e.1 h))]
      by_cases g2 : pk o b < j
      · rw [if_pos g2, if_pos (by omega)]; omega
      · rw [if_neg g2, if_neg (by omega)]; omega
theorem mid_before {W : List (List Nat)} {v n m : Nat} {o : List Nat} (hW : BOk W v n) (hodd : v % 2 = 1) (hm : Mid W o n m) {j : Nat} (hj : j < m) : 2 * leTo W o (j + 1) < v := by
  have := hm.lo j hj
  have h2 := hW.len
  rw [leTo_succ]
  omega
theorem mid_at {W : List (List Nat)} {v n m : Nat} {o : List Nat} (hW : BOk W v n) (hm : Mid W o n m) : ¬ 2 * leTo W o (m + 1) < v := by
  have := hm.hi
  have h2 := hW.len
  rw [leTo_succ]
  omega

/-- The first t ballots of the part, the kz-th left out. -/
def rowsK (W : List (List Nat)) (nm vs : List Nat) (kz : Int) (t : Nat) : List (List Nat) := ((List.range t).filter fun (i : Nat) => decide ((i : Int) ≠ kz)).map fun i => bal nm (W.getD (vs.getD i 0) [])
theorem rowsK_zero (W : List (List Nat)) (nm vs : List Nat) (kz : Int) : rowsK W nm vs kz 0 = [] := rfl
theorem rowsK_yes {W : List (List Nat)} {nm vs : List Nat} {kz : Int} {t : Nat} (h : (t : Int) ≠ kz) : rowsK W nm vs kz (t + 1) = rowsK W nm vs kz t ++ [bal nm (W.getD (vs.getD t 0) [])] := by
  rw [rowsK, List.range_succ, List.filter_append, List.map_append, ← rowsK]
  simp [h]
theorem rowsK_no {W : List (List Nat)} {nm vs : List Nat} {kz : Int} {t : Nat} (h : (t : Int) = kz) : rowsK W nm vs kz (t + 1) = rowsK W nm vs kz t := by
  rw [rowsK, List.range_succ, List.filter_append, List.map_append, ← rowsK]
  simp [h]
theorem rowsK_le (W : List (List Nat)) (nm vs : List Nat) (kz : Int) (t : Nat) : (rowsK W nm vs kz t).length ≤ t := by
  rw [rowsK, List.length_map]
  exact Nat.le_trans (List.length_filter_le _ _) (by rw [List.length_range]; exact Nat.le_refl _)
theorem range_erase (f : Nat → List Nat) : ∀ (vs : List Nat) (j : Nat), ((List.range vs.length).filter fun i => decide (i ≠ j)).map (fun i => f (vs.getD i 0)) = (vs.eraseIdx j).map f
  | [], j => rfl
  | x :: t, 0 => by
    rw [List.length_cons, List.range_succ_eq_map, List.filter_cons_of_neg (by simp), List.filter_map, List.map_map]
    have : List.filter ((fun i => decide (i ≠ 0)) ∘ Nat.succ) (List.range t.length) = List.range t.length := by
      rw [List.filter_eq_self]; intro a _; simp
    rw [this]
    show List.map _ _ = t.map f
    have h2 : t.map f = (List.range t.length).map fun i => f (t.getD i 0) := by
      apply List.ext_getElem?
      intro i
      simp only [List.getElem?_map, List.getElem?_range']
      by_cases h : i < t.length
      · rw [List.getElem?_range h, List.getElem?_eq_getElem h]
        simp [List.getD_eq_getElem?_getD, h]
      · rw [List.getElem?_eq_none (by omega), List.getElem?_eq_none (by rw [List.length_range]; omega)]; rfl
    rw [h2]
    rfl
  | x :: t, j + 1 => by
    rw [List.length_cons, List.range_succ_eq_map, List.filter_cons_of_pos (by simp), List.map_cons, List.filter_map, List.map_map]
    have h1 : ((fun i => decide (i ≠ j + 1)) ∘ Nat.succ) = fun i => decide (i ≠ j) := by
      funext i; simp
    rw [h1]
    have ih := range_erase f t j
    show f x :: List.map _ _ = f x :: (t.eraseIdx j).map f
    rw [← ih]
    rfl
theorem rowsK_all (W : List (List Nat)) (nm vs : List Nat) : rowsK W nm vs (-1) vs.length = partW W nm vs := by
  have h := range_erase (fun x => bal nm (W.getD x [])) vs vs.length
  rw [List.eraseIdx_of_length_le (Nat.le_refl _)] at h
  rw [partW, ← h, rowsK]
  congr 1
  apply List.filter_congr
  intro i hi
  rw [List.mem_range] at hi
  simp; omega
theorem rowsK_less (W : List (List Nat)) (nm vs : List Nat) (j : Nat) : rowsK W nm vs (j : Nat) vs.length = partW W nm (vs.eraseIdx j) := by
  rw [partW, ← range_erase, rowsK]
  congr 1
  apply List.filter_congr
  intro i _
  have : ((i : Int) ≠ (j : Int)) ↔ i ≠ j := by omega
  simp only [this]
/-- What is taken of the first s places of a ballot. -/
def balTo (nm b : List Nat) (s : Nat) : List Nat := bal nm (b.take s)
theorem balTo_zero (nm b : List Nat) : balTo nm b 0 = [] := rfl
theorem balTo_all {nm b : List Nat} {s : Nat} (h : b.length ≤ s) : balTo nm b s = bal nm b := by rw [balTo, List.take_of_length_le h]
theorem balTo_yes {nm b : List Nat} {s : Nat} (hs : s < b.length) (h : b.getD s 0 ∈ nm) : balTo nm b (s + 1) = balTo nm b s ++ [place nm (b.getD s 0)] := by
  have e : b[s] = b.getD s 0 := by rw [List.getD_eq_getElem?_getD, List.getElem?_eq_getElem hs]; rfl
  rw [balTo, List.take_succ_eq_append_getElem hs, bal, List.filter_append, List.map_append, e]
  rw [List.filter_cons_of_pos (by simpa using h)]
  rfl
theorem balTo_no {nm b : List Nat} {s : Nat} (hs : s < b.length) (h : b.getD s 0 ∉ nm) : balTo nm b (s + 1) = balTo nm b s := by
  have e : b[s] = b.getD s 0 := by rw [List.getD_eq_getElem?_getD, List.getElem?_eq_getElem hs]; rfl
  rw [balTo, List.take_succ_eq_append_getElem hs, bal, List.filter_append, List.map_append, e]
  rw [List.filter_cons_of_neg (by simpa using h)]
  simp [balTo, bal]
theorem balTo_le (nm b : List Nat) (s : Nat) : (balTo nm b s).length ≤ s := by
  rw [balTo, bal, List.length_map]
  exact Nat.le_trans (List.length_filter_le _ _) (by rw [List.length_take]; omega)
end Go.Proofs.Ytejijddfepgnkaa
