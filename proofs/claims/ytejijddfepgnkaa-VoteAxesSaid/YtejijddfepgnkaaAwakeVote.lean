/-
  The statements' helper awake: a majority wins by paths.
-/
import Derived.Test.YtejijddfepgnkaaPaths
import Derived.Test.YtejijddfepgnkaaWinner
namespace Go.Proofs.Ytejijddfepgnkaa
open Go.RowKit
set_option linter.unusedVariables false
set_option linter.unusedSimpArgs false

theorem ints_lit {w : World} {b : Nat} {t : TypeId} {cs : Array Value} {l : List Int} (h : w.heap[b]? = some (.cells cs t (0, 0))) (hc : cs = (l.map (Value.int .i64)).toArray) : IntsA w w.heap.size (some ⟨b, 0, none⟩) l := by
  intro i hi
  refine ⟨b, 0, rfl, lt_of_block h, ?_⟩
  rw [blk_cell h, hc]
  simp [hi]
def awL : List (List Int) := [[1, 0], [0, 1], [1, 0]]
def awN : List (List Nat) := [[1, 0], [0, 1], [1, 0]]
def awW (w : World) : World := (((w.alloc (.cells #[.int .i64 1, .int .i64 0] 3)).alloc (.cells #[.int .i64 0, .int .i64 1] 3)).alloc (.cells #[.int .i64 1, .int .i64 0] 3)).alloc
      (.cells #[.slice (some ⟨w.heap.size, 0, none⟩) 2 2, .slice (some ⟨w.heap.size + 1, 0, none⟩) 2 2, .slice (some ⟨w.heap.size + 1 + 1, 0, none⟩) 2 2] 23)
theorem awake_rows (w : World) : RowsA (awW w) (awW w).heap.size (some ⟨w.heap.size + 1 + 1 + 1, 0, none⟩) awL ∧ Below w.heap.size w (awW w) := by
  refine ⟨?_, ((((Below.refl _ _).alloc (Nat.le_refl _) _).alloc (by simp) _).alloc (by simp; omega) _).alloc (by simp; omega) _⟩
  generalize hw : awW w = w3
  have h0 : w3.heap[w.heap.size]? = some (.cells #[.int .i64 1, .int .i64 0] 3 (0, 0)) := by
    subst hw
    exact alloc_old _ _ _ (by simp; omega) (alloc_old _ _ _ (by simp; omega) (alloc_old _ _ _ (by simp) (alloc_new _ _ _ rfl)))
  have h1 : w3.heap[w.heap.size + 1]? = some (.cells #[.int .i64 0, .int .i64 1] 3 (0, 0)) := by
    subst hw
    exact alloc_old _ _ _ (by simp) (alloc_old _ _ _ (by simp) (alloc_new _ _ _ (by simp)))
  have h2 : w3.heap[w.heap.size + 1 + 1]? = some (.cells #[.int .i64 1, .int .i64 0] 3 (0, 0)) := by
    subst hw
    exact alloc_old _ _ _ (by simp) (alloc_new _ _ _ (by simp))
  have h3 : w3.heap[w.heap.size + 1 + 1 + 1]? = some (.cells #[.slice (some ⟨w.heap.size, 0, none⟩) 2 2, .slice (some ⟨w.heap.size + 1, 0, none⟩) 2 2, .slice (some ⟨w.heap.size + 1 + 1, 0, none⟩) 2 2] 23 (0, 0)) := by
    subst hw
    exact alloc_new _ _ _ (by simp)
  have i0 := ints_lit h0 (l := [1, 0]) rfl
  have i1 := ints_lit h1 (l := [0, 1]) rfl
  have i2 := ints_lit h2 (l := [1, 0]) rfl
  intro i hi
  match i, hi with
  | 0, _ => exact ⟨_, 0, some ⟨w.heap.size, 0, none⟩, 2, rfl, lt_of_block h3, blk_cell h3 0, by decide, i0⟩
  | 1, _ => exact ⟨_, 0, some ⟨w.heap.size + 1, 0, none⟩, 2, rfl, lt_of_block h3, blk_cell h3 1, by decide, i1⟩
  | 2, _ => exact ⟨_, 0, some ⟨w.heap.size + 1 + 1, 0, none⟩, 2, rfl, lt_of_block h3, blk_cell h3 2, by decide, i2⟩

theorem awake_valid : votesB awL = true := by decide +kernel
theorem awake_toN : toNN awL = awN := by decide +kernel
theorem awake_win : pathsN (widM 2 (margM awN)) 2 = 1 := by decide +kernel

set_option maxHeartbeats 800000 in
theorem awake_any (w : World) : Calls Try.prog 23 #[] w fun e w' => e = .returned (.bool true) ∧ Below w.heap.size w w' := by
  obtain ⟨hR, hB⟩ := awake_rows w
  obtain ⟨hup, hok⟩ := votes_ok awake_valid
  rw [awake_toN] at hup hok
  have HB := hide hB
  have HT := hide (Win_yes (some ⟨w.heap.size + 1 + 1 + 1, 0, none⟩) 3 3 2 awL 1 (awW w) rfl hR awake_valid (by omega) fun w' hw' => by
    have h := paths_any (some ⟨w.heap.size + 1 + 1 + 1, 0, none⟩) 3 2 3 awN w' hok (by rw [hup]; exact hR.next hw')
    rw [awake_win] at h; exact h)
  clear hR hB hup hok
  unfold awW at HT HB
  go_enter Try.func23, Try.ntmps23
  go_wp2_with (go_at_call 22; refine (HT.out).mono ?_; rintro e w1 ⟨rfl, hb1⟩; have HB1 := hide hb1; clear hb1)
  go_ret
  exact ⟨rfl, HB.out.trans (HB1.out.mono HB.out.size)⟩
end Go.Proofs.Ytejijddfepgnkaa
