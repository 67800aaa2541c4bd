/-
  Arguments that came in, opened: slices of structs of ints (jobs, pieces).
-/
import Derived.Test.YtiadineakhcclaaDMem
import Derived.Deep.Slices
namespace Go.Proofs.Ytiadineakhcclaa
open Go.ChangeShapes Go.WideShapes Go.ChangeAt Go.RowKit Go.Deep
set_option linter.unusedVariables false
set_option linter.unusedSimpArgs false

section
variable {H : Type} {enc : TypeId × Value → H} {P : Program} {w : World} {base : Nat} {held : Bool}
theorem cells_ints {t e q : TypeId} {fs : Array Field} {k fuel len cap : Nat} {a : Option Addr} {x : DataW H × List MemPlace} (ht : P.underlying t = some (.slice e)) (he : P.underlying e = some (.struct fs)) (hC : P.cellsOf e = k) (hk : 0 < k)
    (hf : ∀ j, j < k → ∃ f, fs[j]? = some f ∧ f.offset = j ∧ f.type = q) (hq : P.underlying q = some (.int .i64)) (cq : P.cellsOf q = 1) (h : DataW.trod enc P w base (fun _ => true) held fuel t [.slice a len cap] = some x) :
    len ≤ cap ∧ cap ≤ 9223372036854775807 ∧ ∀ i, i < len → ∃ b o, a = some ⟨b, o, none⟩ ∧ ∀ j, j < k → ∃ n, w.cell? ⟨b, o + (i * k + j), none⟩ = some (.int .i64 n) := by
  rcases open_slice ht h with ⟨h0, _⟩ | ⟨a', len', cap', m, n, D, Pl, hcs, hb, hl, hm, hmm, hx, hi⟩
  · simp at h0
    obtain ⟨rfl, rfl, rfl⟩ := h0
    exact ⟨Nat.le_refl _, by omega, fun i hi => absurd hi (by omega)⟩
  · simp at hcs
    obtain ⟨rfl, rfl, rfl⟩ := hcs
    simp only [if_true] at hmm
    have hall : ∀ i, i < len → ∀ j, j < k → ∃ n, w.cell? (a'.add (i * k + j)) = some (.int .i64 n) := fun i hil j hj => by
      obtain ⟨cs', hc, ht'⟩ := hi i (by omega)
      rw [hC] at hc
      obtain ⟨ys, n', _, _, hlen, hyl, hfl⟩ := DataW.trod_struct he ht'
      obtain ⟨_, hcl, hat⟩ := World.cells?_some hc
      obtain ⟨f, hfj, hfo, hft⟩ := hf j hj
      have h1 := hfl j f hfj
      have hjs : j < fs.size := (Array.getElem?_eq_some_iff.1 hfj).1
      rw [hfo, hft, cq, List.drop_eq_getElem_cons (by omega), List.getElem?_eq_getElem (by omega)] at h1
      obtain ⟨z, hz, _, _⟩ := DataW.trod_int hq h1
      have hz1 : cs'[j]'(by omega) = .int .i64 z := by
        have : (cs'[j]'(by omega) :: cs'.drop (j + 1)).take 1 = [cs'[j]'(by omega)] := rfl
        rw [this] at hz
        injection hz
      refine ⟨z, ?_⟩
      rw [← Go.Deep.add_add, hat j hj, List.getElem?_eq_getElem (by omega), hz1]
    refine ⟨hl, hm, fun i hil => ?_⟩
    have h00 : ∃ v0, w.cell? (a'.add 0) = some v0 := by
      obtain ⟨z, hz⟩ := hall 0 (by omega) 0 hk
      rw [Nat.zero_mul] at hz
      exact ⟨_, hz⟩
    obtain ⟨z, hz⟩ := hall i hil 0 hk
    obtain ⟨b, o, rfl, _⟩ := add_cell hz h00
    refine ⟨b, o, rfl, fun j hj => ?_⟩
    obtain ⟨z, hz⟩ := hall i hil j hj
    rw [add_plain] at hz
    exact ⟨z, hz⟩

theorem jobsA_of {t e q : TypeId} {fs : Array Field} {fuel len cap : Nat} {a : Option Addr} {x : DataW H × List MemPlace} (ht : P.underlying t = some (.slice e)) (he : P.underlying e = some (.struct fs)) (hC : P.cellsOf e = 4)
    (hf : ∀ j, j < 4 → ∃ f, fs[j]? = some f ∧ f.offset = j ∧ f.type = q) (hq : P.underlying q = some (.int .i64)) (cq : P.cellsOf q = 1) (h : DataW.trod enc P w base (fun _ => true) held fuel t [.slice a len cap] = some x) :
    ∃ L : List J4, L.length = len ∧ len ≤ cap ∧ cap ≤ 9223372036854775807 ∧ JobsA w w.heap.size a L := by
  obtain ⟨h1, h2, h3⟩ := cells_ints ht he hC (by omega) hf hq cq h
  have h4 : ∀ i, i < len → ∃ j : J4, ∃ b o, a = some ⟨b, o, none⟩ ∧ b < w.heap.size ∧ w.cell? ⟨b, o + i * 4, none⟩ = some (.int .i64 j.t) ∧ w.cell? ⟨b, o + i * 4 + 1, none⟩ = some (.int .i64 j.r) ∧
      w.cell? ⟨b, o + i * 4 + 2, none⟩ = some (.int .i64 j.d) ∧ w.cell? ⟨b, o + i * 4 + 3, none⟩ = some (.int .i64 j.w) := fun i hi => by
    obtain ⟨b, o, e1, h5⟩ := h3 i hi
    obtain ⟨x0, y0⟩ := h5 0 (by omega)
    obtain ⟨x1, y1⟩ := h5 1 (by omega)
    obtain ⟨x2, y2⟩ := h5 2 (by omega)
    obtain ⟨x3, y3⟩ := h5 3 (by omega)
    rw [← Nat.add_assoc] at y1 y2 y3
    rw [Nat.add_zero] at y0
    exact ⟨⟨x0, x1, x2, x3⟩, b, o, e1, cell_lt y0, y0, y1, y2, y3⟩
  obtain ⟨f, hf2⟩ := Classical.axiomOfChoice (r := fun (i : Nat) (j : J4) => i < len → ∃ b o, a = some ⟨b, o, none⟩ ∧ b < w.heap.size ∧ w.cell? ⟨b, o + i * 4, none⟩ = some (.int .i64 j.t) ∧ w.cell? ⟨b, o + i * 4 + 1, none⟩ = some (.int .i64 j.r) ∧
      w.cell? ⟨b, o + i * 4 + 2, none⟩ = some (.int .i64 j.d) ∧ w.cell? ⟨b, o + i * 4 + 3, none⟩ = some (.int .i64 j.w)) (fun i => by
    by_cases hi : i < len
    · obtain ⟨j, hj⟩ := h4 i hi; exact ⟨j, fun _ => hj⟩
    · exact ⟨j0, fun h => absurd h hi⟩)
  refine ⟨(List.range len).map f, by simp, h1, h2, fun i hi => ?_⟩
  rw [List.length_map, List.length_range] at hi
  have e : ((List.range len).map f).getD i j0 = f i := by simp [List.getD_eq_getElem?_getD, hi]
  rw [e]
  exact hf2 i hi
theorem pcsA_of {t e q : TypeId} {fs : Array Field} {fuel len cap : Nat} {a : Option Addr} {x : DataW H × List MemPlace} (ht : P.underlying t = some (.slice e)) (he : P.underlying e = some (.struct fs)) (hC : P.cellsOf e = 3)
    (hf : ∀ j, j < 3 → ∃ f, fs[j]? = some f ∧ f.offset = j ∧ f.type = q) (hq : P.underlying q = some (.int .i64)) (cq : P.cellsOf q = 1) (h : DataW.trod enc P w base (fun _ => true) held fuel t [.slice a len cap] = some x) :
    ∃ L : List P3, L.length = len ∧ len ≤ cap ∧ cap ≤ 9223372036854775807 ∧ PcsA w w.heap.size a L := by
  obtain ⟨h1, h2, h3⟩ := cells_ints ht he hC (by omega) hf hq cq h
  have h4 : ∀ i, i < len → ∃ j : P3, ∃ b o, a = some ⟨b, o, none⟩ ∧ b < w.heap.size ∧ w.cell? ⟨b, o + i * 3, none⟩ = some (.int .i64 j.job) ∧ w.cell? ⟨b, o + i * 3 + 1, none⟩ = some (.int .i64 j.fr) ∧
      w.cell? ⟨b, o + i * 3 + 2, none⟩ = some (.int .i64 j.to) := fun i hi => by
    obtain ⟨b, o, e1, h5⟩ := h3 i hi
    obtain ⟨x0, y0⟩ := h5 0 (by omega)
    obtain ⟨x1, y1⟩ := h5 1 (by omega)
    obtain ⟨x2, y2⟩ := h5 2 (by omega)
    rw [← Nat.add_assoc] at y1 y2
    rw [Nat.add_zero] at y0
    exact ⟨⟨x0, x1, x2⟩, b, o, e1, cell_lt y0, y0, y1, y2⟩
  obtain ⟨f, hf2⟩ := Classical.axiomOfChoice (r := fun (i : Nat) (j : P3) => i < len → ∃ b o, a = some ⟨b, o, none⟩ ∧ b < w.heap.size ∧ w.cell? ⟨b, o + i * 3, none⟩ = some (.int .i64 j.job) ∧ w.cell? ⟨b, o + i * 3 + 1, none⟩ = some (.int .i64 j.fr) ∧
      w.cell? ⟨b, o + i * 3 + 2, none⟩ = some (.int .i64 j.to)) (fun i => by
    by_cases hi : i < len
    · obtain ⟨j, hj⟩ := h4 i hi; exact ⟨j, fun _ => hj⟩
    · exact ⟨p0, fun h => absurd h hi⟩)
  refine ⟨(List.range len).map f, by simp, h1, h2, fun i hi => ?_⟩
  rw [List.length_map, List.length_range] at hi
  have e : ((List.range len).map f).getD i p0 = f i := by simp [List.getD_eq_getElem?_getD, hi]
  rw [e]
  exact hf2 i hi
end
end Go.Proofs.Ytiadineakhcclaa
