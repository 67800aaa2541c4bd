/-
  awake.
-/
import Derived.Test.YtiadineakhcclaaDApi
import Derived.Test.YtiadineakhcclaaDEq
namespace Go.Proofs.Ytiadineakhcclaa
open Go.RowKit Go.Deep
set_option linter.unusedVariables false
set_option linter.unusedSimpArgs false

def L1 : List J4 := [⟨2, 1, 9, 0⟩]
theorem jobs_L1 : jobsB L1 = true := by kernel_rfl
theorem run_L1 : runP false L1 3 = ([0], [⟨0, 1, 3⟩]) := by kernel_rfl
theorem plan_L1 : planN false L1 = [⟨0, 1, 3⟩] := by
  have h := runP_end (sh := false) (jobsB_iff.1 jobs_L1) (k := 3) (by
    rw [run_L1]; intro i hi
    obtain rfl : i = 0 := by have : i < 1 := hi; omega
    exact Int.le_refl _)
  rw [← h, run_L1]
set_option maxHeartbeats 1600000 in
theorem awake_any (w : World) : Calls Try.prog 20 #[] w fun e w' => e = .returned (.bool true) ∧ Below w.heap.size w w' := by
  obtain ⟨w1, hw1⟩ : ∃ w1, w1 = w.alloc (.cells #[.int .i64 2, .int .i64 1, .int .i64 9, .int .i64 0] 48) := ⟨_, rfl⟩
  have hbx : w1.heap[w.heap.size]? = some (.cells #[.int .i64 2, .int .i64 1, .int .i64 9, .int .i64 0] 48 (0, 0)) := by rw [hw1]; exact alloc_new _ _ _ rfl
  have hJ : JobsA w1 w1.heap.size (some ⟨w.heap.size, 0, none⟩) L1 := fun i hi => by
    obtain rfl : i = 0 := by have : i < 1 := hi; omega
    exact ⟨w.heap.size, 0, rfl, lt_of_block hbx, blk_cell hbx 0, blk_cell hbx 1, blk_cell hbx 2, blk_cell hbx 3⟩
  have HB1 : Hid (Below w.heap.size w w1) := by subst hw1; exact (Below.refl _ _).alloc (Nat.le_refl _) _
  have HP := hide (plan_yes (some ⟨w.heap.size, 0, none⟩) 1 1 L1 w1 rfl (by omega) hJ jobs_L1)
  rw [plan_L1] at HP
  have HEQ : Hid (∀ (w2 : World) (X : Option Addr) (c : Nat), PcsA w2 w2.heap.size X [⟨0, 1, 3⟩] → Below w.heap.size w w2 → Calls Try.prog 26 #[.slice X 1 c, .slice (some ⟨w2.heap.size, 0, none⟩) 1 1] (w2.alloc (.cells #[.int .i64 0, .int .i64 1, .int .i64 3] 44)) fun e w' => e = .returned (.bool true) ∧ Below w.heap.size w w') := fun w2 X c hX hb => by
    have hb2 : Below w2.heap.size w2 (w2.alloc (.cells #[.int .i64 0, .int .i64 1, .int .i64 3] 44)) := (Below.refl _ _).alloc (Nat.le_refl _) _
    have hby : (w2.alloc (.cells #[.int .i64 0, .int .i64 1, .int .i64 3] 44)).heap[w2.heap.size]? = some (.cells #[.int .i64 0, .int .i64 1, .int .i64 3] 44 (0, 0)) := alloc_new _ _ _ rfl
    refine (eqdp_same X 1 c (some ⟨w2.heap.size, 0, none⟩) 1 [⟨0, 1, 3⟩] _ rfl (by omega) (hX.next hb2) (fun i hi => ?_)).mono fun e w' h => ⟨h.1, (hb.trans (hb2.mono hb.size)).trans (h.2.mono (hb.trans (hb2.mono hb.size)).size)⟩
    obtain rfl : i = 0 := by have : i < 1 := hi; omega
    exact ⟨w2.heap.size, 0, rfl, lt_of_block hby, blk_cell hby 0, blk_cell hby 1, blk_cell hby 2⟩
  have HW := hide hw1
  clear hw1 hbx hJ
  go_enter Try.func20, Try.ntmps20
  go_wp2_with (first
    | (go_at_call 24; rw [← HW.out]; refine (HP.out).mono ?_; rintro e w2 ⟨X, m, c', rfl, h1, h2, h3, h4⟩; obtain rfl : 1 = m := h1; have H3 := hide h3; have H4 := hide (HB1.out.trans (h4.mono HB1.out.size)); clear h3 h4)
    | (go_at_call 26; refine (HEQ.out _ _ _ H3.out H4.out).mono ?_; rintro e w3 ⟨rfl, h5⟩; have H5 := hide h5; clear h5))
  go_ret
  exact ⟨rfl, H5.out⟩
end Go.Proofs.Ytiadineakhcclaa
