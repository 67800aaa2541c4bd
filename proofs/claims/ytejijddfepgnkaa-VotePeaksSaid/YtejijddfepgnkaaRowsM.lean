/-
  vote: matrix.rows.
-/
import Derived.Test.YtejijddfepgnkaaMargins
import Derived.Test.YtejijddfepgnkaaEqual
namespace Go.Proofs.Ytejijddfepgnkaa
open Go.RowKit
set_option linter.unusedVariables false
set_option linter.unusedSimpArgs false

def rowZ (M : Mat) (n i : Nat) : List Int := (List.range n).map fun j => M i j
def rowsZ (M : Mat) (n : Nat) : List (List Int) := (List.range n).map fun i => rowZ M n i
theorem rowZ_len (M : Mat) (n i : Nat) : (rowZ M n i).length = n := by simp [rowZ]
theorem rowZ_mem {w : World} {mb : Nat} {M : Mat} (h : w.heap[mb]? = some (.cells (matC M) 80 (0, 0))) {n i : Nat} (hn : n ≤ 5) (hi : i < 5) : IntsA w w.heap.size (some ⟨mb, i * 5, none⟩) (rowZ M n i) := by
  intro j hj
  rw [rowZ_len] at hj
  refine ⟨mb, i * 5, rfl, lt_of_block h, ?_⟩
  rw [blk_cell h, matC_at M hi (by omega)]
  simp [rowZ, List.getD_eq_getElem?_getD, hj]
theorem slice_arr (mb o n : Nat) (hn : n ≤ 5) (w : World) : (Instr.sliceAt 78 (.pointer (some ⟨mb, o, none⟩)) none (some (.int .i64 n)) none).run Try.prog w = .ok (.slice (some ⟨mb, o, none⟩) n 5) w := by
  have ht : Try.prog.underlying 78 = some (.array (Try.prog.arrayLen 78) (Try.prog.elem 78)) := by kernel_rfl
  have hz : (sizeOf (Try.prog.elem 78)).run Try.prog w = .ok 1 w := by kernel_rfl
  have h5 : Try.prog.arrayLen 78 = 5 := by kernel_rfl
  rw [run_sliceAt_array_h (ht := ht) (h0 := by omega) (h2 := by rw [h5]; omega)]
  simp only [Result.andThen, hz, h5]
  unfold slicedAt
  simp [Addr.add]

set_option maxRecDepth 100000 in
set_option maxHeartbeats 1600000 in
theorem rowsM_any (M : Mat) (n : Nat) (w : World) (hn : n ≤ 5) :
    Calls Try.prog 70 #[.agg (matC M), .int .i64 n] w fun e w' => ∃ X c', e = .returned (.slice X n c') ∧ n ≤ c' ∧ RowsA w' w'.heap.size X (rowsZ M n) ∧ Below w.heap.size w w' := by
  obtain ⟨w1, hw1⟩ : ∃ w1, w1 = w.alloc (.cells (matC M) 80) := ⟨_, rfl⟩
  have hm1 : w1.heap[w.heap.size]? = some (.cells (matC M) 80 (0, 0)) := by subst hw1; exact alloc_new _ _ _ rfl
  have hb1 : Below w.heap.size w w1 := by subst hw1; exact (Below.refl _ _).alloc (Nat.le_refl _) _
  have HM1 := hide hm1
  have HB1 := hide hb1
  have hl1 : w.heap.size < w1.heap.size := lt_of_block hm1
  clear hm1 hb1
  go_enter Try.func70, Try.ntmps70
  go_wp2
  rw [← hw1]
  clear hw1
  go_loopw [5, 8] (fun v i wr => ∃ (k c' : Nat) (X : Option Addr) (vs : List Value), k ≤ n ∧ i = .int .i64 k ∧ v = .slice X k c' ∧ k ≤ c' ∧ wr.ownsRow w1.heap.size 23 1 (.slice X k c') k vs ∧
      RowVals wr (Value.slice X k c').ownBlock vs ((rowsZ M n).take k) ∧ Below w1.heap.size w1 wr) (fun _ i _ => n - (intOf i).toNat)
  case atStart => exact ⟨0, 0, none, [], by omega, rfl, rfl, by omega, World.ownsRow_nil _ _ _ _, RowVals.nil_, Below.refl _ _⟩
  case round =>
    obtain ⟨k, c', X, vs, hk, rfl, rfl, hkc, hown, hrv, hbel⟩ := hrel
    have HOW := hide hown
    have HRV := hide hrv
    clear hown hrv
    by_cases hlt : k < n
    · have hmr := (hbel.block _ hl1).trans HM1.out
      have HCL := hide (clone_any (some ⟨w.heap.size, k * 5, none⟩) n 5 wr.heap.size (rowZ M n k) wr (rowZ_len M n k) (by omega) (rowZ_mem hmr hn (by omega)))
      have hsa := slice_arr w.heap.size (k * 5) n hn
      have hst : (rowsZ M n).take (k + 1) = (rowsZ M n).take k ++ [rowZ M n k] := by
        rw [List.take_add_one]
        simp [rowsZ, hlt]
      have HSTEP := hide hst
      have hk5 : (k : Int) < 5 := by omega
      clear hst hmr
      go_wp2_with (first
        | (go_at_call 63; refine (HCL.out).mono ?_; rintro e w2 ⟨A2, c2, rfl, hl2, hI2, _, hb2, hlow⟩; have HOW1 := hide (HOW.out.kept (row := none) (w' := w2) ⟨hb2.os, hb2.tape, hb2.output, hb2.size, fun k hk _ => hb2.block k hk⟩ (by
              cases h : (Value.slice X k c').ownBlock
              · exact .inl rfl
              · exact .inr (by simp))); have HRV1 := hide (HRV.out.next hb2); have HI2 := hide hI2; have HLOW := hide hlow; clear hI2 hlow)
        | (at_builtin; refine wpList_app1 (w0 := w2) _ _ 22 23 (.slice none 0 0) 24 rfl rfl Try.underlying22 info_ints rfl w1.heap.size (.slice X k c') k vs (.slice A2 n c2) rfl rfl rfl ⟨_, rfl⟩ HOW1.out rfl (by omega) (by omega) (by have := hbel.size; have := hb2.size; omega) ?_; intro g cg w3 hown2 hc2 hc2m hg2 hgl hgrow; have HOW2 := hide hown2; have HG := hide hgrow; have HG2 := hide hg2; clear hown2 hgrow hg2))
      go_roundw
      case rel =>
        refine ⟨k + 1, cg, some ⟨g, 0, none⟩, _, by omega, by go_num, rfl, hc2, HOW2.out, ?_, ?_⟩
        · rw [HSTEP.out]
          refine HRV1.out.snoc HG.out HG2.out (rowZ_len M n k) hl2 HI2.out (fun _ => off_own (n := n) (c := c2) fun gg hq => ?_)
          intro e
          have h1 := HLOW.out gg hq
          have h2 := (own_lt HOW.out gg e.symm).2
          omega
        · exact (hbel.trans (hb2.mono hbel.size)).grown HG.out (by have := hbel.size; have := hb2.size; omega) (fun q hq => (own_lt HOW.out q hq).1)
      case measure => simp [intOf]; omega
    · obtain rfl : n = k := by omega
      have hrows := rows_of HRV.out HOW.out
      rw [List.take_of_length_le (by simp [rowsZ])] at hrows
      have HROWS := hide hrows
      clear hrows
      go_wp2
      go_ret
      exact ⟨X, c', rfl, hkc, HROWS.out, HB1.out.trans (hbel.mono HB1.out.size)⟩
end Go.Proofs.Ytejijddfepgnkaa
