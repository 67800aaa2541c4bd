/-
  The top statements helper trades: two exchange what they have.
-/
import Derived.Test.YtgognkofnegobaaTradeTop
import Derived.Test.YtgognkofnegobaaEqual
namespace Go.Proofs.Ytgognkofnegobaa
open Go.RowKit
set_option linter.unusedVariables false
set_option linter.unusedSimpArgs false

theorem ints_lit {w : World} {b : Nat} {t : TypeId} {cs : Array Value} {l : List Int} (h : w.heap[b]? = some (.cells cs t (0, 0))) (hc : cs = (l.map (Value.int .i64)).toArray) : IntsA w w.heap.size (some ⟨b, 0, none⟩) l := by
  intro i hi
  refine ⟨b, 0, rfl, lt_of_block h, ?_⟩
  rw [blk_cell h, hc]
  simp [hi]

theorem awake_rows (w : World) : RowsA (((w.alloc (.cells #[.int .i64 1, .int .i64 0] 3)).alloc (.cells #[.int .i64 0, .int .i64 1] 3)).alloc
      (.cells #[.slice (some ⟨w.heap.size, 0, none⟩) 2 2, .slice (some ⟨w.heap.size + 1, 0, none⟩) 2 2] 24)) (w.heap.size + 3) (some ⟨w.heap.size + 1 + 1, 0, none⟩) [[1, 0], [0, 1]] := by
  generalize hw : (((w.alloc (.cells #[.int .i64 1, .int .i64 0] 3)).alloc (.cells #[.int .i64 0, .int .i64 1] 3)).alloc
      (.cells #[.slice (some ⟨w.heap.size, 0, none⟩) 2 2, .slice (some ⟨w.heap.size + 1, 0, none⟩) 2 2] 24)) = w3
  have h0 : w3.heap[w.heap.size]? = some (.cells #[.int .i64 1, .int .i64 0] 3 (0, 0)) := by
    subst hw
    exact alloc_old _ _ _ (by simp; omega) (alloc_old _ _ _ (by simp) (alloc_new _ _ _ rfl))
  have h1 : w3.heap[w.heap.size + 1]? = some (.cells #[.int .i64 0, .int .i64 1] 3 (0, 0)) := by
    subst hw
    exact alloc_old _ _ _ (by simp) (alloc_new _ _ _ (by simp))
  have h2 : w3.heap[w.heap.size + 1 + 1]? = some (.cells #[.slice (some ⟨w.heap.size, 0, none⟩) 2 2, .slice (some ⟨w.heap.size + 1, 0, none⟩) 2 2] 24 (0, 0)) := by
    subst hw
    exact alloc_new _ _ _ (by simp)
  have hs : w3.heap.size = w.heap.size + 3 := by subst hw; simp
  have i0 := ints_lit h0 (l := [1, 0]) rfl
  have i1 := ints_lit h1 (l := [0, 1]) rfl
  rw [hs] at i0 i1
  intro i hi
  match i, hi with
  | 0, _ => exact ⟨_, 0, some ⟨w.heap.size, 0, none⟩, 2, rfl, by omega, blk_cell h2 0, by decide, i0⟩
  | 1, _ => exact ⟨_, 0, some ⟨w.heap.size + 1, 0, none⟩, 2, rfl, by omega, blk_cell h2 1, by decide, i1⟩

theorem awake_trade : tradeN (toNN [[1, 0], [0, 1]]) = [1, 0] := by decide

set_option maxHeartbeats 400000 in
theorem trades_any (w : World) : Calls Try.prog 14 #[] w fun e w' => e = .returned (.bool true) ∧ Below w.heap.size w w' := by
  have HT := hide (Trade_yes (some ⟨w.heap.size + 1 + 1, 0, none⟩) 2 2 _ [[1, 0], [0, 1]] _ rfl (awake_rows w) (by decide))
  rw [awake_trade] at HT
  have hbel : Below w.heap.size w (((w.alloc (.cells #[.int .i64 1, .int .i64 0] 3)).alloc (.cells #[.int .i64 0, .int .i64 1] 3)).alloc
      (.cells #[.slice (some ⟨w.heap.size, 0, none⟩) 2 2, .slice (some ⟨w.heap.size + 1, 0, none⟩) 2 2] 24)) :=
    (((Below.refl _ _).alloc (Nat.le_refl _) _).alloc (by simp) _).alloc (by simp; omega) _
  have HB := hide hbel
  clear hbel
  have hsz : (((w.alloc (.cells #[.int .i64 1, .int .i64 0] 3)).alloc (.cells #[.int .i64 0, .int .i64 1] 3)).alloc
      (.cells #[.slice (some ⟨w.heap.size, 0, none⟩) 2 2, .slice (some ⟨w.heap.size + 1, 0, none⟩) 2 2] 24)).heap.size = w.heap.size + 3 := by simp
  have HS := hide hsz
  clear hsz
  go_enter Try.func14, Try.ntmps14
  go_wp2_with (go_at_call 18; refine (HT.out).mono ?_; rintro e w1 ⟨O, co, rfl, hO, hb1⟩; have HO := hide hO; have HB1 := hide hb1; clear hO hb1)
  have hI1 : IntsA (w1.alloc (.cells #[.int .i64 1, .int .i64 0] 3)) w1.heap.size O [1, 0] := (HO.out).keep fun p hp => World.cell?_alloc_lt _ _ _ hp
  have hI2 : IntsA (w1.alloc (.cells #[.int .i64 1, .int .i64 0] 3)) (w1.alloc (.cells #[.int .i64 1, .int .i64 0] 3)).heap.size (some ⟨w1.heap.size, 0, none⟩) [1, 0] := ints_lit (alloc_new _ _ _ rfl) rfl
  refine (equal_any O _ 2 2 co 2 _ _ [1, 0] [1, 0] _ rfl rfl (by omega) hI1 hI2).mono ?_
  rintro e w2 ⟨rfl, m, rfl⟩
  go_wp2
  go_ret
  refine ⟨rfl, ?_⟩
  have h1 : Below w.heap.size w w1 := HB.out.trans (HB1.out.mono (by rw [HS.out]; omega))
  exact below_drewN (h1.alloc h1.size _) m
end Go.Proofs.Ytgognkofnegobaa
