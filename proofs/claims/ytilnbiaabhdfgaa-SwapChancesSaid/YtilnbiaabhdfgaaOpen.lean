/-
  Arguments that came in, opened: slices of ints, slices of such slices. Over any program.
-/
import Derived.Test.YtilnbiaabhdfgaaMem
import Derived.ProofKit
import Derived.OpenShut
import Derived.Deep.Matrix
namespace Go.Proofs.Ytilnbiaabhdfgaa
open Go.ChangeShapes Go.WideShapes Go.ChangeAt Go.RowKit Go.Deep
set_option linter.unusedVariables false
set_option linter.unusedSimpArgs false

theorem add_plain (b o i : Nat) : (⟨b, o, none⟩ : Addr).add i = ⟨b, o + i, none⟩ := by
  unfold Addr.add
  split
  · rename_i h0; subst h0; rfl
  · rfl
theorem spot_none {w : World} {a : Addr} {v : Value} (h : w.cell? a = some v) : a.spot = none := by
  unfold World.cell? at h
  split at h
  · split at h
    · cases h
    · cases hs : a.spot with
      | none => rfl
      | some s => simp [hs] at *
  · cases h
theorem add_cell {w : World} {a : Addr} {i : Nat} {v : Value} (h : w.cell? (a.add i) = some v) (h0 : ∃ v0, w.cell? (a.add 0) = some v0) : ∃ b o, a = ⟨b, o, none⟩ ∧ w.cell? ⟨b, o + i, none⟩ = some v := by
  obtain ⟨v0, h0⟩ := h0
  have hs := spot_none h0
  obtain ⟨b, o, s⟩ := a
  simp only [Addr.add, if_true] at hs
  subst hs
  exact ⟨b, o, rfl, by rw [← add_plain]; exact h⟩

section
variable {H : Type} {enc : TypeId × Value → H} {P : Program} {w : World} {base : Nat} {held : Bool}
/-- A slice of ints that came in. -/
theorem intsA_of {t q : TypeId} {fuel len cap : Nat} {a : Option Addr} {x : DataW H × List MemPlace} (ht : P.underlying t = some (.slice q)) (hq : P.underlying q = some (.int .i64)) (cq : P.cellsOf q = 1)
    (h : DataW.trod enc P w base (fun _ => true) held fuel t [.slice a len cap] = some x) : ∃ l : List Int, l.length = len ∧ len ≤ cap ∧ cap ≤ 9223372036854775807 ∧ IntsA w w.heap.size a l ∧ (∀ n ∈ l, -9223372036854775808 ≤ n ∧ n ≤ 9223372036854775807) := by
  rcases open_ints ht hq cq h with ⟨hcs, _⟩ | ⟨a', l', c', zs, hcs, _, hl, hm, hz, _, hcell, hwz⟩
  · simp at hcs
    obtain ⟨rfl, rfl, rfl⟩ := hcs
    exact ⟨[], rfl, Nat.le_refl _, by omega, IntsA.nil_, by simp⟩
  · simp at hcs
    obtain ⟨rfl, rfl, rfl⟩ := hcs
    simp only [if_true] at hz
    refine ⟨zs.take len, by simp; omega, hl, hm, fun i hi => ?_, fun n hn => bounds_i64 (hwz n (List.mem_of_mem_take hn))⟩
    simp only [List.length_take] at hi
    obtain ⟨b, o, rfl, hc⟩ := add_cell (hcell i (by omega)) ⟨_, hcell 0 (by omega)⟩
    refine ⟨b, o, rfl, cell_lt hc, ?_⟩
    rw [hc]
    simp only [List.getD_eq_getElem?_getD, List.getElem?_take]
    rw [if_pos (by omega)]
/-- A slice of slices of ints that came in. -/
theorem rowsA_of {t e q : TypeId} {fuel len cap : Nat} {a : Option Addr} {x : DataW H × List MemPlace} (ht : P.underlying t = some (.slice e)) (he : P.underlying e = some (.slice q)) (hq : P.underlying q = some (.int .i64))
    (ce : P.cellsOf e = 1) (cq : P.cellsOf q = 1) (h : DataW.trod enc P w base (fun _ => true) held fuel t [.slice a len cap] = some x) :
    ∃ L : List (List Int), L.length = len ∧ len ≤ cap ∧ cap ≤ 9223372036854775807 ∧ (∀ l ∈ L, l.length ≤ 9223372036854775807) ∧ RowsA w w.heap.size a L := by
  rcases open_int_rows ht he hq ce cq h with ⟨hcs, _⟩ | ⟨a', l', c', A, L, C, Z, hcs, _, hl, hm, _, hrows⟩
  · simp at hcs
    obtain ⟨rfl, rfl, rfl⟩ := hcs
    exact ⟨[], rfl, Nat.le_refl _, by omega, by simp, RowsA.nil_⟩
  · simp at hcs
    obtain ⟨rfl, rfl, rfl⟩ := hcs
    refine ⟨(List.range len).map fun r => (Z r).take (L r), by simp, hl, hm, ?_, fun i hi => ?_⟩
    · intro l hlm
      obtain ⟨r, hr, rfl⟩ := List.mem_map.1 hlm
      simp only [List.mem_range] at hr
      obtain ⟨_, h1, h2, _⟩ := hrows r (by omega)
      simp only [List.length_take]
      have : maxLen = 9223372036854775807 := rfl
      omega
    · simp only [List.length_map, List.length_range] at hi
      obtain ⟨h0, h1, h2, h3, h4, h5, h6⟩ := hrows i (by omega)
      obtain ⟨b, o, rfl, hc⟩ := add_cell h0 ⟨_, (hrows 0 (by omega)).1⟩
      have e1 : ((List.range len).map fun r => (Z r).take (L r)).getD i [] = (Z i).take (L i) := by simp [List.getD_eq_getElem?_getD, hi]
      rw [e1]
      have e2 : ((Z i).take (L i)).length = L i := by simp; omega
      refine ⟨b, o, A i, C i, rfl, cell_lt hc, by rw [e2]; exact hc, by rw [e2]; exact h1, fun j hj => ?_⟩
      rw [e2] at hj
      cases hA : A i with
      | none => have := h5 hA; omega
      | some a' =>
        obtain ⟨_, hcell⟩ := h6 a' hA
        obtain ⟨b2, o2, rfl, hc2⟩ := add_cell (hcell j (by omega)) ⟨_, hcell 0 (by omega)⟩
        refine ⟨b2, o2, rfl, cell_lt hc2, ?_⟩
        rw [hc2]
        simp only [List.getD_eq_getElem?_getD, List.getElem?_take]
        rw [if_pos hj]
end
end Go.Proofs.Ytilnbiaabhdfgaa
