/-
  swap: wishes.own: the market in which person i has thing i.
-/
import Derived.Test.YtgognkofnegobaaInfo
import Derived.Test.YtgognkofnegobaaBase
namespace Go.Proofs.Ytgognkofnegobaa
open Go.RowKit
set_option linter.unusedVariables false
set_option linter.unusedSimpArgs false

theorem up_range_succ (k : Nat) : (up (List.range (k + 1))).map (Value.int .i64) = (up (List.range k)).map (Value.int .i64) ++ [Value.int .i64 (k : Int)] := by
  simp [up, List.range_succ]

set_option maxHeartbeats 800000 in
theorem own_any (A : Option Addr) (n c : Nat) (w : World) (hlen : n ≤ 60) :
    Calls Try.prog 39 #[.slice A n c] w fun e w' => ∃ H c', e = .returned (.agg #[.slice A n c, .slice H n c']) ∧ IntsA w' w'.heap.size H (up (List.range n)) ∧ Below w.heap.size w w' := by
  go_enter Try.func39, Try.ntmps39
  go_wp2
  go_loopw [9] (fun i wr => ∃ (k c' : Nat) (H : Option Addr), k ≤ n ∧ i = .int .i64 k ∧ wr.heap[w.heap.size]? = some (.cells #[.slice none 0 0, .slice none 0 0] 60 (0, 0)) ∧
      wr.heap[w.heap.size + 1]? = some (.cells #[.slice A n c, .slice H k c'] 60 (0, 0)) ∧ wr.ownsRow (w.heap.size + 2) 3 1 (.slice H k c') k ((up (List.range k)).map (Value.int .i64)) ∧ Below w.heap.size w wr)
    (fun i _ => n - (intOf i).toNat)
  case atStart =>
    refine ⟨0, 0, none, Nat.zero_le _, rfl, ?_, ?_, World.ownsRow_nil _ _ _ _, (((Below.refl _ _).alloc (Nat.le_refl _) _).alloc (by simp) _)⟩
    · exact alloc_old _ _ _ (by simp) (alloc_new _ _ _ rfl)
    · exact alloc_new _ _ _ (by simp)
  case round =>
    obtain ⟨k, c', H, hk, rfl, hb0, hb1, hown, hbel⟩ := hrel
    have c0 := blk_cell hb1 0
    have c1 := blk_cell hb1 1
    have f1 := blk_free hb1 1
    have c2 := blk_cell hb0 0
    have c3 := blk_cell hb0 1
    have f2 := blk_free hb0 0
    have f3 := blk_free hb0 1
    have hsz : w.heap.size + 1 < wr.heap.size := lt_of_block hb1
    simp only [List.getElem?_toArray, List.getElem?_cons_zero, List.getElem?_cons_succ] at c0 c1 c2 c3
    have HB0 := hide hb0
    have HB1 := hide hb1
    have HOW := hide hown
    clear hb0 hb1 hown
    by_cases hlt : k < n
    · have ca : ∀ o, (wr.alloc o).cell? ⟨w.heap.size + 1, 1, none⟩ = some (.slice H k c') := fun o => (World.cell?_alloc_lt _ _ _ hsz).trans c1
      have hrow : ∀ gg, (Value.slice H k c').ownBlock = some gg → w.heap.size + 2 ≤ gg := fun gg hgg => (own_lt HOW.out gg hgg).1
      have HR := hide hrow
      clear hrow
      go_wp2_with ((at_builtin); refine wpList_app1 (w0 := wr) _ _ 24 3 (.int .i64 0) 8 rfl rfl Try.underlying24 info_int rfl (w.heap.size + 2) (.slice H k c') k _ (.int .i64 (k : Int)) rfl rfl rfl ⟨_, rfl⟩ HOW.out rfl (by omega) (by omega) (by omega) ?_; intro g cg w1 hown1 hc1 hc1m hg1 hgl hgrow; have HB1' := hide ((hgrow.block (w.heap.size + 1) hsz (fun e => by have := HR.out _ e.symm; omega)).trans HB1.out); have d1 := blk_cell HB1'.out 1; have e1 := blk_free HB1'.out 1; simp only [List.getElem?_toArray, List.getElem?_cons_zero, List.getElem?_cons_succ] at d1; have HB0' := hide ((hgrow.block w.heap.size (by omega) (fun e => by have := HR.out _ e.symm; omega)).trans HB0.out); have HOW1 := hide hown1; have HG := hide hgrow; clear hown1 hgrow)
      go_roundw
      case rel =>
        have hg2 : w.heap.size + 2 ≤ g := by
          rcases hg1 with h | h
          · exact HR.out g h
          · omega
        refine ⟨k + 1, cg, some ⟨g, 0, none⟩, by omega, by go_num, ?_, blk_set HB1'.out 1 _, ?_, ?_⟩
        · rw [blk_far _ (by omega)]; exact HB0'.out
        · rw [up_range_succ]
          exact own_far HOW1.out (fun gg hgg => by have e9 : g = gg := (by simpa [Value.ownBlock] using hgg); omega) _
        · exact (hbel.grown HG.out (by omega) (fun gg hgg => by have := HR.out gg hgg; omega)).setCell (by show w.heap.size ≤ w.heap.size + 1; omega) _
      case measure => simp [intOf]; omega
    · obtain rfl : k = n := by omega
      have hrow : ∀ gg, (Value.slice H k c').ownBlock = some gg → w.heap.size + 2 ≤ gg := fun gg hgg => (own_lt HOW.out gg hgg).1
      have HR := hide hrow
      clear hrow
      go_wp2
      refine bodyPost_ret (v := .agg #[.slice A k c, .slice H k c']) ?_ rfl ⟨H, c', rfl, ?_, ?_⟩
      · have hb := blk_set (blk_set HB0.out 0 (.slice A k c)) 1 (.slice H k c')
        have q0 := blk_cell hb 0
        have q1 := blk_cell hb 1
        simp at q0 q1
        simp [results, Try.results39, go_sem, q0, q1]
      · have := own_far (own_far HOW.out (b' := w.heap.size) (i := 0) (fun gg hgg => by have := HR.out gg hgg; omega) (.slice A k c)) (b' := w.heap.size) (i := 1) (fun gg hgg => by have := HR.out gg hgg; omega) (.slice H k c')
        exact ints_of_own this
      · exact (hbel.setCell (by show w.heap.size ≤ w.heap.size; omega) _).setCell (by show w.heap.size ≤ w.heap.size; omega) _
end Go.Proofs.Ytgognkofnegobaa
