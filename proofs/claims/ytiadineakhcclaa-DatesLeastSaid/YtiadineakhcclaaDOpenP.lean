/-
  Arguments that came in, opened: slices of pairs.
-/
import Derived.Test.YtiadineakhcclaaDPrs
import Derived.Deep.Slices
import Derived.OpenShut
namespace Go.Proofs.Ytiadineakhcclaa
open Go.ChangeShapes Go.WideShapes Go.ChangeAt Go.RowKit Go.Deep
set_option linter.unusedVariables false
set_option linter.unusedSimpArgs false

section
variable {H : Type} {enc : TypeId × Value → H} {P : Program} {w : World} {base : Nat} {held : Bool}
theorem prsA_of {t e q : TypeId} {fuel len cap : Nat} {a : Option Addr} {x : DataW H × List MemPlace} (ht : P.underlying t = some (.slice e)) (he : P.underlying e = some (.array 2 q)) (hC : P.cellsOf e = 2)
    (hq : P.underlying q = some (.int .i64)) (cq : P.cellsOf q = 1) (h : DataW.trod enc P w base (fun _ => true) held fuel t [.slice a len cap] = some x) :
    ∃ l : List (Int × Int), l.length = len ∧ len ≤ cap ∧ cap ≤ 9223372036854775807 ∧ PrsA w w.heap.size a l := by
  have key : len ≤ cap ∧ cap ≤ 9223372036854775807 ∧ ∀ i, i < len → ∃ b o, a = some ⟨b, o, none⟩ ∧ ∀ j, j < 2 → ∃ n, w.cell? ⟨b, o + (i * 2 + j), none⟩ = some (.int .i64 n) := by
    rcases open_slice ht h with ⟨h0, _⟩ | ⟨a', len', cap', m, n, D, Pl, hcs, hb, hl, hm, hmm, hx, hi⟩
    · simp at h0
      obtain ⟨rfl, rfl, rfl⟩ := h0
      exact ⟨Nat.le_refl _, by omega, fun i hi => absurd hi (by omega)⟩
    · simp at hcs
      obtain ⟨rfl, rfl, rfl⟩ := hcs
      simp only [if_true] at hmm
      have hall : ∀ i, i < len → ∀ j, j < 2 → ∃ n, w.cell? (a'.add (i * 2 + j)) = some (.int .i64 n) := fun i hil j hj => by
        obtain ⟨cs', hc, ht'⟩ := hi i (by omega)
        rw [hC] at hc
        obtain ⟨ys, n', _, _, hlen, hyl, hfl⟩ := DataW.trod_array he ht'
        obtain ⟨_, hcl, hat⟩ := World.cells?_some hc
        have h1 := hfl j hj
        rw [cq, Nat.mul_one, List.drop_eq_getElem_cons (by omega), List.getElem?_eq_getElem (by omega)] at h1
        obtain ⟨z, hz, _, _⟩ := DataW.trod_int hq h1
        have hz1 : cs'[j]'(by omega) = .int .i64 z := by
          have : (cs'[j]'(by omega) :: cs'.drop (j + 1)).take 1 = [cs'[j]'(by omega)] := rfl
          rw [this] at hz
          injection hz
        refine ⟨z, ?_⟩
        rw [← Go.Deep.add_add, hat j hj, List.getElem?_eq_getElem (by omega), hz1]
      refine ⟨hl, hm, fun i hil => ?_⟩
      have h00 : ∃ v0, w.cell? (a'.add 0) = some v0 := by
        obtain ⟨z, hz⟩ := hall 0 (by omega) 0 (by omega)
        rw [Nat.zero_mul] at hz
        exact ⟨_, hz⟩
      obtain ⟨z, hz⟩ := hall i hil 0 (by omega)
      obtain ⟨b, o, rfl, _⟩ := add_cell hz h00
      refine ⟨b, o, rfl, fun j hj => ?_⟩
      obtain ⟨z, hz⟩ := hall i hil j hj
      rw [add_plain] at hz
      exact ⟨z, hz⟩
  obtain ⟨h1, h2, h3⟩ := key
  have h4 : ∀ i, i < len → ∃ j : Int × Int, ∃ b o, a = some ⟨b, o, none⟩ ∧ b < w.heap.size ∧ w.cell? ⟨b, o + i * 2, none⟩ = some (.int .i64 j.1) ∧ w.cell? ⟨b, o + i * 2 + 1, none⟩ = some (.int .i64 j.2) := fun i hi => by
    obtain ⟨b, o, e1, h5⟩ := h3 i hi
    obtain ⟨x0, y0⟩ := h5 0 (by omega)
    obtain ⟨x1, y1⟩ := h5 1 (by omega)
    rw [← Nat.add_assoc] at y1
    rw [Nat.add_zero] at y0
    exact ⟨(x0, x1), b, o, e1, cell_lt y0, y0, y1⟩
  obtain ⟨f, hf2⟩ := Classical.axiomOfChoice (r := fun (i : Nat) (j : Int × Int) => i < len → ∃ b o, a = some ⟨b, o, none⟩ ∧ b < w.heap.size ∧ w.cell? ⟨b, o + i * 2, none⟩ = some (.int .i64 j.1) ∧ w.cell? ⟨b, o + i * 2 + 1, none⟩ = some (.int .i64 j.2)) (fun i => by
    by_cases hi : i < len
    · obtain ⟨j, hj⟩ := h4 i hi; exact ⟨j, fun _ => hj⟩
    · exact ⟨(0, 0), fun h => absurd h hi⟩)
  refine ⟨(List.range len).map f, by simp, h1, h2, fun i hi => ?_⟩
  rw [List.length_map, List.length_range] at hi
  have e : ((List.range len).map f).getD i (0, 0) = f i := by simp [List.getD_eq_getElem?_getD, hi]
  rw [e]
  exact hf2 i hi
end
end Go.Proofs.Ytiadineakhcclaa
