/-
  vote.Lie refuses.
-/
import Derived.Test.YtejijddfepgnkaaLieV
namespace Go.Proofs.Ytejijddfepgnkaa
open Go.RowKit
set_option linter.unusedVariables false
set_option linter.unusedSimpArgs false

set_option maxRecDepth 100000 in
set_option maxHeartbeats 1600000 in
theorem Lie_no (A : Option Addr) (v c : Nat) (r : Int) (L : List (List Int)) (w : World) (hn : L.length = v) (hlen : v ≤ 9223372036854775807) (hrow : ∀ l ∈ L, l.length ≤ 9223372036854775807) (hA : RowsA w w.heap.size A L) (hr : votesB L = false ∨ r < 0 ∨ 3 < r) :
    Calls Try.prog 20 #[.slice A v c, .int .i64 r] w fun e w' => e = .returned (.tuple #[.int .i64 0, .slice none 0 0, .int .i64 2]) ∧ Below w.heap.size w w' := by
  have HWI := hide (fun (w' : World) (h : Below w.heap.size w w') => WinN_no A v c r L w' hn hlen hrow (hA.next h) hr)
  clear hA hr hrow
  refine calls_of_marks Try.func20 rfl ?_
  simp only [Try.ntmps20, List.size_toArray, List.length_cons, List.length_nil, Nat.reduceAdd, Nat.reduceSub, Array.replicate_succ, Array.replicate_zero, List.push_toArray, List.append_toArray, List.nil_append, List.cons_append]
  go_wp2_with fail
  obtain ⟨W1, hW1⟩ : ∃ W1, (((w.alloc (.cells #[.int .i64 r] 3)).alloc (.cells #[.int .i64 0] 3)).alloc (.cells #[.slice none 0 0] 23)).alloc (.cells #[.int .i64 0] 24) = W1 := ⟨_, rfl⟩
  have hb1 : Below w.heap.size w W1 := by subst hW1; exact ((((Below.refl _ _).alloc (Nat.le_refl _) _).alloc (by simp) _).alloc (by simp <;> omega) _).alloc (by simp <;> omega) _
  have hs1 : W1.heap.size = w.heap.size + 4 := by subst hW1; simp
  have p1 : W1.heap[w.heap.size + 1]? = some (.cells #[.int .i64 0] 3 (0, 0)) := by subst hW1; exact alloc_old _ _ _ (by simp <;> omega) (alloc_old _ _ _ (by simp) (alloc_new _ _ _ (by simp)))
  have p2 : W1.heap[w.heap.size + 1 + 1]? = some (.cells #[.slice none 0 0] 23 (0, 0)) := by subst hW1; exact alloc_old _ _ _ (by simp) (alloc_new _ _ _ (by simp))
  have p3 : W1.heap[w.heap.size + 1 + 1 + 1]? = some (.cells #[.int .i64 0] 24 (0, 0)) := by subst hW1; exact alloc_new _ _ _ (by simp)
  rw [hW1]
  have HB1 := hide hb1
  have HS1 := hide hs1
  have P1 := hide p1
  have P2 := hide p2
  have P3 := hide p3
  clear hW1 hb1 hs1 p1 p2 p3
  go_upto_region 3 with (go_at_call 22; refine (HWI.out _ HB1.out).mono ?_; rintro e w1 ⟨rfl, hb⟩; have HB2 := hide hb; clear hb; have hsz1 : w.heap.size + 4 ≤ w1.heap.size := (by have := HB2.out.size; have := HS1.out; omega); have g3 : ∀ o, (w1.alloc o).cell? ⟨w.heap.size + 1 + 1 + 1, 0, none⟩ = some (.int .i64 0) := (fun o => blk_cell (alloc_old _ o _ (by omega) ((HB2.out.block _ (by have := HS1.out; omega)).trans P3.out)) 0); have g4 : ∀ o, (w1.alloc o).frozen? ⟨w.heap.size + 1 + 1 + 1, 0, none⟩ = false := (fun o => blk_free (alloc_old _ o _ (by omega) ((HB2.out.block _ (by have := HS1.out; omega)).trans P3.out)) 0))
  have hh1 := HS1.out
  have hb2 := HB2.out
  obtain ⟨w2, hw2⟩ : ∃ w2, (w1.alloc (.cells #[.int .i64 0] 3)).setCell ⟨w.heap.size + 1 + 1 + 1, 0, none⟩ (.int .i64 2) = w2 := ⟨_, rfl⟩
  have old : ∀ k, k < W1.heap.size → k ≠ w.heap.size + 1 + 1 + 1 → w2.heap[k]? = W1.heap[k]? := fun k h1 h2 => by
    subst hw2; exact (blk_far _ h2).trans (alloc_old _ _ _ (by have := hb2.size; omega) (hb2.block k h1))
  have t1 := (old _ (by omega) (by omega)).trans P1.out
  have t2 := (old _ (by omega) (by omega)).trans P2.out
  have t3 : w2.heap[w.heap.size + 1 + 1 + 1]? = some (.cells #[.int .i64 2] 24 (0, 0)) := by subst hw2; exact blk_set (alloc_old _ _ _ (by omega) ((hb2.block _ (by omega)).trans P3.out)) 0 _
  have hbel : Below w.heap.size w w2 := by subst hw2; exact (((HB1.out.trans (hb2.mono HB1.out.size)).alloc (by omega) _).setCell (by show w.heap.size ≤ w.heap.size + 1 + 1 + 1; omega) _)
  rw [hw2]
  have hn12 : w.heap.size + 1 ≠ w.heap.size + 1 + 1 := by omega
  have hn13 : w.heap.size + 1 ≠ w.heap.size + 1 + 1 + 1 := by omega
  have hn23 : w.heap.size + 1 + 1 ≠ w.heap.size + 1 + 1 + 1 := by omega
  have x1 := blk_cell t1 0
  have x2 := blk_cell t2 0
  have x3 := blk_cell t3 0
  have g1 := blk_free t1 0
  have g2 := blk_free t2 0
  have g5 := blk_free t3 0
  simp only [List.getElem?_toArray, List.getElem?_cons_zero] at x1 x2 x3
  have T1 := hide t1
  have T2 := hide t2
  have T3 := hide t3
  have HBEL := hide hbel
  clear g3 g4 hw2 old t1 t2 t3 hbel hb2
  go_wp2
  go_region
  go_wp2_with fail
  obtain ⟨V, hV⟩ : ∃ V, (((w2.setCell ⟨w.heap.size + 1, 0, none⟩ (.int .i64 0)).setCell ⟨w.heap.size + 1 + 1, 0, none⟩ (.slice none 0 0)).setCell ⟨w.heap.size + 1 + 1 + 1, 0, none⟩ (.int .i64 2)).drew = V := ⟨_, rfl⟩
  have far : ∀ q, q ≠ w.heap.size + 1 → q ≠ w.heap.size + 1 + 1 → q ≠ w.heap.size + 1 + 1 + 1 → V.heap[q]? = w2.heap[q]? := fun q h1 h2 h3 => by subst hV; exact (blk_far _ h3).trans ((blk_far _ h2).trans (blk_far _ h1))
  have hVs : V.heap.size = w2.heap.size := by subst hV; simp [World.setCell, World.drew]
  have t1 : V.heap[w.heap.size + 1]? = some (.cells #[.int .i64 0] 3 (0, 0)) := by subst hV; exact (blk_far _ hn13).trans ((blk_far _ hn12).trans (blk_set T1.out 0 _))
  have t2 : V.heap[w.heap.size + 1 + 1]? = some (.cells #[.slice none 0 0] 23 (0, 0)) := by subst hV; exact (blk_far _ hn23).trans (blk_set ((blk_far _ hn12.symm).trans T2.out) 0 _)
  have t3 : V.heap[w.heap.size + 1 + 1 + 1]? = some (.cells #[.int .i64 2] 24 (0, 0)) := by subst hV; exact blk_set ((blk_far _ hn23.symm).trans ((blk_far _ hn13.symm).trans T3.out)) 0 _
  have hVO : V.os = w2.os ∧ V.tape = w2.tape ∧ V.output = w2.output := by subst hV; exact ⟨rfl, rfl, rfl⟩
  rw [hV]
  have x1 := blk_cell t1 0
  have x2 := blk_cell t2 0
  have x3 := blk_cell t3 0
  simp only [List.getElem?_toArray, List.getElem?_cons_zero] at x1 x2 x3
  have hb9 := HBEL.out
  refine ⟨.tuple #[.int .i64 0, .slice none 0 0, .int .i64 2], ?_, rfl, ⟨hVO.1.trans hb9.os, hVO.2.1.trans hb9.tape, hVO.2.2.trans hb9.output, by have := hb9.size; omega, fun q hq => (far q (by omega) (by omega) (by omega)).trans (hb9.block q hq)⟩⟩
  rw [results_cells3 rfl]
  go_simp
end Go.Proofs.Ytejijddfepgnkaa
