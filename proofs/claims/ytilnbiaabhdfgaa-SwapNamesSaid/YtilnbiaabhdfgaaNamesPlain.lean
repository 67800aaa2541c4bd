/-
  Renaming the people together with their things renames what trading gives, and the chances.
-/
import Derived.Test.YtilnbiaabhdfgaaEqualTtc
namespace Go.Proofs.Ytilnbiaabhdfgaa
open Go.RowKit
set_option linter.unusedVariables false
set_option linter.unusedSimpArgs false

section
variable {W X : List (List Nat)} {n : Nat} {t : List Nat} (hW : WOk W n) (ht : Ord t n) (hX : WOk X n) (hr : ∀ j, j < n → X.getD j [] = (W.getD (t.getD j 0) []).map (place t))
include hW ht hX hr
omit hX in
theorem names_place {j y : Nat} (hj : j < n) (hy : y < n) : place (X.getD j []) y = place (W.getD (t.getD j 0) []) (t.getD y 0) := by
  rw [hr j hj, place_map ht (hW.rows _ (ht.getD_lt hj)) hy]
theorem names_trade {i : Nat} (hi : i < n) : (tradeN X).getD (place t i) 0 = place t ((tradeN W).getD i 0) := by
  have h := hW.ttc
  have ht' : Ttc X n (fun j => place t ((traded W (List.range n)).1 (t.getD j 0))) (fun j => (traded W (List.range n)).2 (t.getD j 0)) := by
    refine ⟨fun j hj => (at_place ht (h.lt _ (ht.getD_lt hj))).1, fun j k hj hk e => ?_, fun j hj => ?_, fun j y hj hy hlt => ?_⟩
    · have e1 := place_inj ht (h.lt _ (ht.getD_lt hj)) (h.lt _ (ht.getD_lt hk)) e
      exact ht.inj j k hj hk (h.inj _ _ (ht.getD_lt hj) (ht.getD_lt hk) e1)
    · rw [(at_place ht (h.lt _ (ht.getD_lt hj))).2]
      exact h.same _ (ht.getD_lt hj)
    · rw [names_place hW ht hr hj hy, names_place hW ht hr hj (at_place ht (h.lt _ (ht.getD_lt hj))).1, (at_place ht (h.lt _ (ht.getD_lt hj))).2] at hlt
      exact h.pre _ _ (ht.getD_lt hj) (ht.getD_lt hy) hlt
  obtain ⟨h1, h2⟩ := at_place ht hi
  have := hX.ttc.unique ht' hX.rows _ h1
  rw [tradeN_at hX h1, tradeN_at hW hi, this]
  rw [h2]
theorem names_choose {i : Nat} (hi : i < n) {e : List Nat} (he : Ord e n) : (chooseN X (e.map (place t))).getD (place t i) 0 = place t ((chooseN W e).getD i 0) := by
  have h := hW.cho he
  have he2 := again_ord ht he
  have hp : ∀ j, j < n → place (e.map (place t)) j = place e (t.getD j 0) := fun j hj => place_map ht he hj
  have ht' : Cho X n (fun j => place t (chosen W e (t.getD j 0))) (place (e.map (place t))) := by
    refine ⟨fun j hj => (at_place ht (h.lt _ (ht.getD_lt hj))).1, fun j k hj hk e => ?_, fun j y hj hy hlt => ?_⟩
    · have e1 := place_inj ht (h.lt _ (ht.getD_lt hj)) (h.lt _ (ht.getD_lt hk)) e
      exact ht.inj j k hj hk (h.inj _ _ (ht.getD_lt hj) (ht.getD_lt hk) e1)
    · rw [names_place hW ht hr hj hy, names_place hW ht hr hj (at_place ht (h.lt _ (ht.getD_lt hj))).1, (at_place ht (h.lt _ (ht.getD_lt hj))).2] at hlt
      obtain ⟨k, hk, h1, h2⟩ := h.pre _ _ (ht.getD_lt hj) (ht.getD_lt hy) hlt
      obtain ⟨h3, h4⟩ := at_place ht hk
      refine ⟨place t k, h3, ?_, ?_⟩
      · rw [hp _ h3, hp _ hj, h4]; exact h1
      · rw [h4, h2, place_at ht hy]
  obtain ⟨h1, h2⟩ := at_place ht hi
  rw [chooseN_at hX _ h1, chooseN_at hW _ hi, ← (hX.cho he2).unique ht' hX.rows (place_ord he2) _ h1]
  rw [h2]
theorem names_chance {i g : Nat} (hi : i < n) (hg : g < n) : ((chancesN X).getD (place t i) []).getD (place t g) 0 = ((chancesN W).getD i []).getD g 0 := by
  have val : ∀ {V : List (List Nat)}, WOk V n → ∀ {i g : Nat}, i < n → g < n → ((chancesN V).getD i []).getD g 0 = (ordsN n).countP fun l => (chooseN V l).getD i 0 == g := fun {V} hV {i g} hi hg => by
    have e : ((chancesN V).getD i []).getD g 0 = tallyF n (chooseN V) (ordsN n) (fun _ _ => 0) i g := by
      rw [chancesN, hV.len, tallyN_row _ _ hi]; simp [List.getD_eq_getElem?_getD, hg]
    rw [e, tallyF_count _ i g hi]; simp
  obtain ⟨h1, h2⟩ := at_place ht hi
  obtain ⟨h3, h4⟩ := at_place ht hg
  rw [val hX h1 h3, val hW hi hg]
  rw [← count_bij (fun e => e.map (place t)) (fun e he => again_ord ht he) (fun e e' he he' h => ?_) (fun l => (chooseN X l).getD (place t i) 0 == place t g)]
  · refine count_congr fun e he => ?_
    have ho := mem_ordsN.1 he
    rw [Bool.eq_iff_iff, beq_iff_eq, beq_iff_eq, names_choose hW ht hX hr hi ho]
    constructor
    · intro h; exact place_inj ht ((chooseN_ord hW ho).getD_lt hi) hg h
    · intro h; rw [h]
  · apply ord_ext he.len he'.len
    intro i hi
    have h1 := congrArg (fun l => l.getD i 0) h
    simp only [map_at he hi, map_at he' hi] at h1
    exact place_inj ht (he.getD_lt hi) (he'.getD_lt hi) h1
end

/-! ### the renaming by a number -/
def turnN (n b : Nat) : List Nat := listF n fun k => (k + (n - b)) % n
def rowU (W : List (List Nat)) (n b j : Nat) : List Nat := (W.getD ((j + (n - b)) % n) []).map fun y => (y + b) % n
def namesN (W : List (List Nat)) (n b : Nat) : List (List Nat) := (List.range n).map (rowU W n b)
theorem turn_back {n b k : Nat} (hb : b < n) (hk : k < n) : ((k + b) % n + (n - b)) % n = k := by
  rcases Nat.lt_or_ge (k + b) n with h | h
  · rw [Nat.mod_eq_of_lt h, show k + b + (n - b) = k + n by omega, Nat.add_mod_right, Nat.mod_eq_of_lt hk]
  · rw [Nat.mod_eq_sub_mod h, Nat.mod_eq_of_lt (by omega : k + b - n < n), show k + b - n + (n - b) = k by omega, Nat.mod_eq_of_lt hk]
theorem turn_forth {n b k : Nat} (hb : b < n) (hk : k < n) : ((k + (n - b)) % n + b) % n = k := by
  rcases Nat.lt_or_ge (k + (n - b)) n with h | h
  · rw [Nat.mod_eq_of_lt h, show k + (n - b) + b = k + n by omega, Nat.add_mod_right, Nat.mod_eq_of_lt hk]
  · rw [Nat.mod_eq_sub_mod h, Nat.mod_eq_of_lt (by omega : k + (n - b) - n < n), show k + (n - b) - n + b = k by omega, Nat.mod_eq_of_lt hk]
theorem turn_ord {n b : Nat} (hb : b < n) : Ord (turnN n b) n :=
  ord_listF (fun k hk => Nat.mod_lt _ (by omega)) fun j k hj hk e => by
    have h1 := turn_forth hb hj
    have h2 := turn_forth hb hk
    rw [e] at h1
    omega
theorem turn_at {n b k : Nat} (hk : k < n) : (turnN n b).getD k 0 = (k + (n - b)) % n := listF_getD _ _ hk
theorem turn_place {n b k : Nat} (hb : b < n) (hk : k < n) : place (turnN n b) k = (k + b) % n := by
  have h1 : (k + b) % n < n := Nat.mod_lt _ (by omega)
  have := place_at (turn_ord hb) h1
  rwa [turn_at h1, turn_back hb hk] at this
section
variable {W : List (List Nat)} {n b : Nat} (hW : WOk W n) (hb : b < n)
include hW hb
theorem names_row {j : Nat} (hj : j < n) : (namesN W n b).getD j [] = (W.getD ((turnN n b).getD j 0) []).map (place (turnN n b)) := by
  have e : (namesN W n b).getD j [] = rowU W n b j := by simp [namesN, List.getD_eq_getElem?_getD, hj]
  rw [e, turn_at hj, rowU]
  refine List.map_congr_left fun y hy => ?_
  have := ((hW.rows _ (Nat.mod_lt _ (by omega))).mem y).1 hy
  rw [turn_place hb this]
theorem names_ok : WOk (namesN W n b) n := ⟨by simp [namesN], hW.pos, hW.le, fun j hj => by
  rw [names_row hW hb hj]
  exact again_ord (turn_ord hb) (hW.rows _ ((turn_ord hb).getD_lt hj))⟩
theorem names_tradeB {i : Nat} (hi : i < n) : (tradeN (namesN W n b)).getD ((i + b) % n) 0 = ((tradeN W).getD i 0 + b) % n := by
  rw [← turn_place hb hi, names_trade hW (turn_ord hb) (names_ok hW hb) (fun j hj => names_row hW hb hj) hi, turn_place hb ((tradeN_ord hW).getD_lt hi)]
theorem names_chanceB {i g : Nat} (hi : i < n) (hg : g < n) : ((chancesN (namesN W n b)).getD ((i + b) % n) []).getD ((g + b) % n) 0 = ((chancesN W).getD i []).getD g 0 := by
  rw [← turn_place hb hi, ← turn_place hb hg, names_chance hW (turn_ord hb) (names_ok hW hb) (fun j hj => names_row hW hb hj) hi hg]
end
end Go.Proofs.Ytilnbiaabhdfgaa
