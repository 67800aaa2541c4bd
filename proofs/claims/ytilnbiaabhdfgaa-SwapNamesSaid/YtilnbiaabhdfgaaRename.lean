/-
  Orders renamed, plain.
-/
import Derived.Test.YtilnbiaabhdfgaaParetoPlain
namespace Go.Proofs.Ytilnbiaabhdfgaa
open Go.RowKit
set_option linter.unusedVariables false
set_option linter.unusedSimpArgs false

theorem take_snoc_nat (l : List Nat) (k : Nat) (h : k < l.length) : l.take (k + 1) = l.take k ++ [l.getD k 0] := by
  rw [List.take_succ_eq_append_getElem h, List.getD_eq_getElem?_getD, List.getElem?_eq_getElem h]; rfl
theorem upp_take_snoc (W : List (List Nat)) (k : Nat) (h : k < W.length) : upp (W.take (k + 1)) = upp (W.take k) ++ [up (W.getD k [])] := by
  rw [List.take_succ_eq_append_getElem h, List.getD_eq_getElem?_getD, List.getElem?_eq_getElem h]
  simp only [upp, List.map_append, List.map_cons, List.map_nil]; rfl
theorem place_at {t : List Nat} {n : Nat} (ht : Ord t n) {g : Nat} (hg : g < n) : place t (t.getD g 0) = g :=
  ht.inj _ _ (by have := place_lt (l := t) ((ht.mem _).2 (ht.getD_lt hg)); rw [ht.len] at this; exact this.1) hg (place_lt ((ht.mem _).2 (ht.getD_lt hg))).2
theorem at_place {t : List Nat} {n : Nat} (ht : Ord t n) {g : Nat} (hg : g < n) : place t g < n ∧ t.getD (place t g) 0 = g := by
  have := place_lt ((ht.mem g).2 hg); rwa [ht.len] at this
theorem place_map {t l : List Nat} {n : Nat} (ht : Ord t n) (hl : Ord l n) {g : Nat} (hg : g < n) : place (l.map (place t)) g = place l (t.getD g 0) := by
  have hin : t.getD g 0 ∈ l := (hl.mem _).2 (ht.getD_lt hg)
  obtain ⟨p1, p2⟩ := place_lt hin
  have hm : g ∈ l.map (place t) := List.mem_map.2 ⟨_, hin, place_at ht hg⟩
  have hat : ∀ j, j < l.length → (l.map (place t)).getD j 0 = place t (l.getD j 0) := fun j hj => by simp [List.getD_eq_getElem?_getD, hj]
  have h1 : place (l.map (place t)) g ≤ place l (t.getD g 0) := place_first (by rw [List.length_map]; exact p1) (by rw [hat _ p1, p2, place_at ht hg])
  obtain ⟨q1, q2⟩ := place_lt hm
  rw [List.length_map] at q1
  rw [hat _ q1] at q2
  have h2 : l.getD (place (l.map (place t)) g) 0 = t.getD g 0 := by
    have hlt : l.getD (place (l.map (place t)) g) 0 < n := hl.getD_lt (by rw [← hl.len]; exact q1)
    have := (place_lt ((ht.mem _).2 hlt)).2
    rw [q2] at this; exact this.symm
  have h3 := place_first q1 h2
  omega
theorem again_ord {t l : List Nat} {n : Nat} (ht : Ord t n) (hl : Ord l n) : Ord (l.map (place t)) n := by
  refine ⟨by rw [List.length_map]; exact hl.len, fun g => ⟨fun h => ?_, fun h => ?_⟩⟩
  · obtain ⟨y, hy, rfl⟩ := List.mem_map.1 h
    exact (at_place ht ((hl.mem y).1 hy)).1
  · exact List.mem_map.2 ⟨t.getD g 0, (hl.mem _).2 (ht.getD_lt h), place_at ht h⟩
theorem map_at {t l : List Nat} {n : Nat} (hl : Ord l n) {k : Nat} (hk : k < n) : (l.map (place t)).getD k 0 = place t (l.getD k 0) := by
  have h := hl.len
  simp [List.getD_eq_getElem?_getD, h, hk]
theorem upp_valid {W : List (List Nat)} {n : Nat} (h : WOk W n) : validB (upp W) = true ∧ toNN (upp W) = W := by
  constructor
  · rw [validB_iff, upp_length, h.len]
    refine ⟨⟨h.pos, h.le⟩, fun l hl => ?_⟩
    obtain ⟨i, hi, rfl⟩ := List.getElem_of_mem hl
    rw [upp_length, h.len] at hi
    have e : (upp W)[i] = (upp W).getD i [] := by simp [List.getD_eq_getElem?_getD, h.len, hi]
    rw [e, upp_getD]
    exact ord_B (h.rows i hi)
  · simp only [toNN, upp, List.map_map]
    have : ∀ l ∈ W, (toN ∘ up) l = l := fun l _ => by simp [toN, up, Function.comp_def]
    rw [List.map_congr_left this, List.map_id']
end Go.Proofs.Ytilnbiaabhdfgaa
