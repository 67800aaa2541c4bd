/-
  vote: Path, refused.
-/
import Derived.Test.YtejijddfepgnkaaUpTo
import Derived.Test.YtejijddfepgnkaaValidVote
import Derived.BigQuiet
namespace Go.Proofs.Ytejijddfepgnkaa
open Go.RowKit
set_option linter.unusedVariables false
set_option linter.unusedSimpArgs false

set_option maxRecDepth 100000 in
set_option maxHeartbeats 1600000 in
theorem Path_no (A : Option Addr) (v cc : Nat) (x y : Int) (L : List (List Int)) (w : World) (hn : L.length = v) (hlen : v ≤ 9223372036854775807) (hrow : ∀ l ∈ L, l.length ≤ 9223372036854775807) (hA : RowsA w w.heap.size A L) (hv : votesB L = false) :
    Calls Try.prog 40 #[.slice A v cc, .int .i64 x, .int .i64 y] w fun e w' => e = .returned (.tuple #[.slice none 0 0, .int .i64 2]) ∧ Below w.heap.size w w' := by
  obtain ⟨wp0, hwp0⟩ : ∃ wp0 : World, wp0 = w := ⟨_, rfl⟩
  subst hwp0
  obtain ⟨W2, hW2⟩ : ∃ W2 : World, W2 = (wp0.alloc (.cells #[.int .i64 y] 3)).alloc (.cells #[.slice A v cc] 67) := ⟨_, rfl⟩
  have hb2 : Below wp0.heap.size wp0 W2 := by subst hW2; exact ((Below.refl _ _).alloc (Nat.le_refl _) _).alloc (by simp) _
  have hs2 : W2.heap.size = wp0.heap.size + 2 := by subst hW2; simp
  have hx0 : W2.cell? ⟨wp0.heap.size, 0, none⟩ = some (.int .i64 y) := by subst hW2; exact blk_cell (alloc_old _ _ _ (by simp) (alloc_new _ _ _ rfl)) 0
  have hx1 : W2.cell? ⟨wp0.heap.size + 1, 0, none⟩ = some (.slice A v cc) := by subst hW2; exact blk_cell (alloc_new _ _ _ (by simp)) 0
  have lx0 : wp0.heap.size < W2.heap.size := by omega
  have lx1 : wp0.heap.size + 1 < W2.heap.size := by omega
  have HV := hide (fun w' (hw' : Below W2.heap.size W2 w') => by
    have := valid_any A v cc w'.heap.size L w' hn hlen hrow ((hA.next hb2).next hw')
    rw [hv] at this
    exact this)
  have HB2 := hide hb2
  have HW2 := hide hW2
  clear hW2 hb2 hA hv hrow hn
  go_enter Try.func40, Try.ntmps40
  go_wp2_with fail
  rw [← HW2.out]
  refine wp_region_below (by kernel_rfl) (by kernel_rfl) ?_
  refine wpQuiet_val' (.slice A v cc) (by rfl) (fun w' hw' => by have e0 := (hw'.cell (p := ⟨wp0.heap.size + 1, 0, none⟩) lx1).trans hx1; go_simp) ?_
  simp only [put_lit, List.set_cons_succ, List.set_cons_zero]
  refine wpQuiet_call' 62 #[.slice A v cc] (.bool false) (by rfl) (fun w' hw' => by go_simp) (fun w' hw' => (HV.out w' hw').mono fun e w9 h9 => ⟨h9.1, hw'.trans (h9.2.mono hw'.size)⟩) ?_
  simp only [put_lit, List.set_cons_succ, List.set_cons_zero]
  refine wpQuiet_val' (.bool true) (by rfl) (fun w' hw' => by go_simp) ?_
  simp only [put_lit, List.set_cons_succ, List.set_cons_zero]
  refine wpQuiet_val' (.bool true) (by rfl) (fun w' hw' => by go_simp) ?_
  simp only [put_lit, List.set_cons_succ, List.set_cons_zero]
  go_big_quiet_skip
  go_big_quiet_skip
  refine wpQuiet_val' (.bool true) (by rfl) (fun w' hw' => by go_simp) ?_
  simp only [put_lit, List.set_cons_succ, List.set_cons_zero]
  refine wpQuiet_val' (.bool true) (by rfl) (fun w' hw' => by go_simp) ?_
  simp only [put_lit, List.set_cons_succ, List.set_cons_zero]
  go_big_quiet_skip
  go_big_quiet_skip
  go_big_quiet_skip
  go_big_quiet_skip
  refine wpQuiet_val' (.bool true) (by rfl) (fun w' hw' => by go_simp) ?_
  simp only [put_lit, List.set_cons_succ, List.set_cons_zero]
  refine wpQuiet_val' (.bool true) (by rfl) (fun w' hw' => by go_simp) ?_
  simp only [put_lit, List.set_cons_succ, List.set_cons_zero]
  go_big_quiet_skip
  go_big_quiet_skip
  refine wpQuiet_val' (.bool true) (by rfl) (fun w' hw' => by go_simp) ?_
  simp only [put_lit, List.set_cons_succ, List.set_cons_zero]
  refine wpQuiet_val' (.bool true) (by rfl) (fun w' hw' => by go_simp) ?_
  simp only [put_lit, List.set_cons_succ, List.set_cons_zero]
  go_big_quiet_skip
  go_big_quiet_skip
  go_big_quiet_skip
  go_big_quiet_skip
  refine wpQuiet_val' (.bool true) (by rfl) (fun w' hw' => by go_simp) ?_
  simp only [put_lit, List.set_cons_succ, List.set_cons_zero]
  refine wpQuiet_val' (.bool true) (by rfl) (fun w' hw' => by go_simp) ?_
  simp only [put_lit, List.set_cons_succ, List.set_cons_zero]
  go_big_quiet_skip
  go_big_quiet_skip
  go_big_quiet_skip
  refine wpQuiet_val' (.bool true) (by rfl) (fun w' hw' => by go_simp) ?_
  simp only [put_lit, List.set_cons_succ, List.set_cons_zero]
  refine wpQuiet_nil ?_
  intro wq hbq
  have HBQ := hide (HB2.out.trans (hbq.mono HB2.out.size))
  clear hbq
  go_wp2
  go_ret2
  exact ⟨rfl, HBQ.out⟩

set_option maxRecDepth 100000 in
set_option maxHeartbeats 3200000 in
theorem Path_bad (A : Option Addr) (v n cc : Nat) (x y : Int) (W : List (List Nat)) (w : World) (hW : BOk W v n) (hA : RowsA w w.heap.size A (upp W)) (hv : votesB (upp W) = true) (hbad : ¬ (0 ≤ x ∧ x < n ∧ 0 ≤ y ∧ y < n ∧ x ≠ y)) :
    Calls Try.prog 40 #[.slice A v cc, .int .i64 x, .int .i64 y] w fun e w' => e = .returned (.tuple #[.slice none 0 0, .int .i64 2]) ∧ Below w.heap.size w w' := by
  have hn5 := hW.nle
  have h9 := hW.le
  obtain ⟨wp0, hwp0⟩ : ∃ wp0 : World, wp0 = w := ⟨_, rfl⟩
  subst hwp0
  obtain ⟨W2, hW2⟩ : ∃ W2 : World, W2 = (wp0.alloc (.cells #[.int .i64 y] 3)).alloc (.cells #[.slice A v cc] 67) := ⟨_, rfl⟩
  have hb2 : Below wp0.heap.size wp0 W2 := by subst hW2; exact ((Below.refl _ _).alloc (Nat.le_refl _) _).alloc (by simp) _
  have hs2 : W2.heap.size = wp0.heap.size + 2 := by subst hW2; simp
  have hx0 : W2.cell? ⟨wp0.heap.size, 0, none⟩ = some (.int .i64 y) := by subst hW2; exact blk_cell (alloc_old _ _ _ (by simp) (alloc_new _ _ _ rfl)) 0
  have hx1 : W2.cell? ⟨wp0.heap.size + 1, 0, none⟩ = some (.slice A v cc) := by subst hW2; exact blk_cell (alloc_new _ _ _ (by simp)) 0
  have lx0 : wp0.heap.size < W2.heap.size := by omega
  have lx1 : wp0.heap.size + 1 < W2.heap.size := by omega
  have HV := hide (fun w' (hw' : Below W2.heap.size W2 w') => by
    have := valid_any A v cc w'.heap.size (upp W) w' (by rw [upp_length, hW.len]) (by omega) (fun l hl => by have := (ordB_iff.1 ((votesB_iff.1 hv).2.2 l hl)).1; have := (votesB_iff.1 hv).2.1; omega) ((hA.next hb2).next hw')
    rw [hv] at this
    exact this)
  have HNA := hide (fun w' (hw' : Below W2.heap.size W2 w') => names_any A v n cc w'.heap.size W w' hW ((hA.next hb2).next hw'))
  have HB2 := hide hb2
  have HW2 := hide hW2
  clear hW2 hb2 hA hv hW
  by_cases g1 : x < 0
  · have d1 : decide (x < 0) = true := decide_eq_true g1
    clear hbad
    go_enter Try.func40, Try.ntmps40
    go_wp2_with fail
    rw [← HW2.out]
    refine wp_region_below (by kernel_rfl) (by kernel_rfl) ?_
    refine wpQuiet_val' (.slice A v cc) (by rfl) (fun w' hw' => by have e0 := (hw'.cell (p := ⟨wp0.heap.size + 1, 0, none⟩) lx1).trans hx1; go_simp) ?_
    simp only [put_lit, List.set_cons_succ, List.set_cons_zero]
    refine wpQuiet_call' 62 #[.slice A v cc] (.bool true) (by rfl) (fun w' hw' => by go_simp) (fun w' hw' => (HV.out w' hw').mono fun e w9 h9 => ⟨h9.1, hw'.trans (h9.2.mono hw'.size)⟩) ?_
    simp only [put_lit, List.set_cons_succ, List.set_cons_zero]
    refine wpQuiet_val' (.bool false) (by rfl) (fun w' hw' => by go_simp) ?_
    simp only [put_lit, List.set_cons_succ, List.set_cons_zero]
    refine wpQuiet_val' (.bool false) (by rfl) (fun w' hw' => by go_simp) ?_
    simp only [put_lit, List.set_cons_succ, List.set_cons_zero]
    refine wpQuiet_val' (.int .i64 x) (by rfl) (fun w' hw' => by go_simp) ?_
    simp only [put_lit, List.set_cons_succ, List.set_cons_zero]
    refine wpQuiet_val' (.bool true) (by rfl) (fun w' hw' => by go_simp) ?_
    simp only [put_lit, List.set_cons_succ, List.set_cons_zero]
    refine wpQuiet_val' (.bool true) (by rfl) (fun w' hw' => by go_simp) ?_
    simp only [put_lit, List.set_cons_succ, List.set_cons_zero]
    refine wpQuiet_val' (.bool true) (by rfl) (fun w' hw' => by go_simp) ?_
    simp only [put_lit, List.set_cons_succ, List.set_cons_zero]
    go_big_quiet_skip
    go_big_quiet_skip
    go_big_quiet_skip
    go_big_quiet_skip
    refine wpQuiet_val' (.bool true) (by rfl) (fun w' hw' => by go_simp) ?_
    simp only [put_lit, List.set_cons_succ, List.set_cons_zero]
    refine wpQuiet_val' (.bool true) (by rfl) (fun w' hw' => by go_simp) ?_
    simp only [put_lit, List.set_cons_succ, List.set_cons_zero]
    go_big_quiet_skip
    go_big_quiet_skip
    refine wpQuiet_val' (.bool true) (by rfl) (fun w' hw' => by go_simp) ?_
    simp only [put_lit, List.set_cons_succ, List.set_cons_zero]
    refine wpQuiet_val' (.bool true) (by rfl) (fun w' hw' => by go_simp) ?_
    simp only [put_lit, List.set_cons_succ, List.set_cons_zero]
    go_big_quiet_skip
    go_big_quiet_skip
    go_big_quiet_skip
    go_big_quiet_skip
    refine wpQuiet_val' (.bool true) (by rfl) (fun w' hw' => by go_simp) ?_
    simp only [put_lit, List.set_cons_succ, List.set_cons_zero]
    refine wpQuiet_val' (.bool true) (by rfl) (fun w' hw' => by go_simp) ?_
    simp only [put_lit, List.set_cons_succ, List.set_cons_zero]
    go_big_quiet_skip
    go_big_quiet_skip
    go_big_quiet_skip
    refine wpQuiet_val' (.bool true) (by rfl) (fun w' hw' => by go_simp) ?_
    simp only [put_lit, List.set_cons_succ, List.set_cons_zero]
    refine wpQuiet_nil ?_
    intro wq hbq
    have HBQ := hide (HB2.out.trans (hbq.mono HB2.out.size))
    clear hbq
    go_wp2
    go_ret2
    exact ⟨rfl, HBQ.out⟩
  · have d1 : decide (x < 0) = false := decide_eq_false g1
    by_cases g2 : (n : Int) ≤ x
    · have d2 : decide ((n : Int) ≤ x) = true := decide_eq_true g2
      clear hbad
      go_enter Try.func40, Try.ntmps40
      go_wp2_with fail
      rw [← HW2.out]
      refine wp_region_below (by kernel_rfl) (by kernel_rfl) ?_
      refine wpQuiet_val' (.slice A v cc) (by rfl) (fun w' hw' => by have e0 := (hw'.cell (p := ⟨wp0.heap.size + 1, 0, none⟩) lx1).trans hx1; go_simp) ?_
      simp only [put_lit, List.set_cons_succ, List.set_cons_zero]
      refine wpQuiet_call' 62 #[.slice A v cc] (.bool true) (by rfl) (fun w' hw' => by go_simp) (fun w' hw' => (HV.out w' hw').mono fun e w9 h9 => ⟨h9.1, hw'.trans (h9.2.mono hw'.size)⟩) ?_
      simp only [put_lit, List.set_cons_succ, List.set_cons_zero]
      refine wpQuiet_val' (.bool false) (by rfl) (fun w' hw' => by go_simp) ?_
      simp only [put_lit, List.set_cons_succ, List.set_cons_zero]
      refine wpQuiet_val' (.bool false) (by rfl) (fun w' hw' => by go_simp) ?_
      simp only [put_lit, List.set_cons_succ, List.set_cons_zero]
      refine wpQuiet_val' (.int .i64 x) (by rfl) (fun w' hw' => by go_simp) ?_
      simp only [put_lit, List.set_cons_succ, List.set_cons_zero]
      refine wpQuiet_val' (.bool false) (by rfl) (fun w' hw' => by go_simp) ?_
      simp only [put_lit, List.set_cons_succ, List.set_cons_zero]
      refine wpQuiet_val' (.bool false) (by rfl) (fun w' hw' => by go_simp) ?_
      simp only [put_lit, List.set_cons_succ, List.set_cons_zero]
      refine wpQuiet_val' (.bool false) (by rfl) (fun w' hw' => by go_simp) ?_
      simp only [put_lit, List.set_cons_succ, List.set_cons_zero]
      refine wpQuiet_val' (.int .i64 x) (by rfl) (fun w' hw' => by go_simp) ?_
      simp only [put_lit, List.set_cons_succ, List.set_cons_zero]
      refine wpQuiet_val' (.slice A v cc) (by rfl) (fun w' hw' => by have e0 := (hw'.cell (p := ⟨wp0.heap.size + 1, 0, none⟩) lx1).trans hx1; go_simp) ?_
      simp only [put_lit, List.set_cons_succ, List.set_cons_zero]
      refine wpQuiet_call' 60 #[.slice A v cc] (.int .i64 (n : Nat)) (by rfl) (fun w' hw' => by go_simp) (fun w' hw' => (HNA.out w' hw').mono fun e w9 h9 => ⟨h9.1, by rw [← h9.2]; exact hw'⟩) ?_
      simp only [put_lit, List.set_cons_succ, List.set_cons_zero]
      refine wpQuiet_val' (.bool true) (by rfl) (fun w' hw' => by go_simp) ?_
      simp only [put_lit, List.set_cons_succ, List.set_cons_zero]
      refine wpQuiet_val' (.bool true) (by rfl) (fun w' hw' => by go_simp) ?_
      simp only [put_lit, List.set_cons_succ, List.set_cons_zero]
      refine wpQuiet_val' (.bool true) (by rfl) (fun w' hw' => by go_simp) ?_
      simp only [put_lit, List.set_cons_succ, List.set_cons_zero]
      go_big_quiet_skip
      go_big_quiet_skip
      refine wpQuiet_val' (.bool true) (by rfl) (fun w' hw' => by go_simp) ?_
      simp only [put_lit, List.set_cons_succ, List.set_cons_zero]
      refine wpQuiet_val' (.bool true) (by rfl) (fun w' hw' => by go_simp) ?_
      simp only [put_lit, List.set_cons_succ, List.set_cons_zero]
      go_big_quiet_skip
      go_big_quiet_skip
      go_big_quiet_skip
      go_big_quiet_skip
      refine wpQuiet_val' (.bool true) (by rfl) (fun w' hw' => by go_simp) ?_
      simp only [put_lit, List.set_cons_succ, List.set_cons_zero]
      refine wpQuiet_val' (.bool true) (by rfl) (fun w' hw' => by go_simp) ?_
      simp only [put_lit, List.set_cons_succ, List.set_cons_zero]
      go_big_quiet_skip
      go_big_quiet_skip
      go_big_quiet_skip
      refine wpQuiet_val' (.bool true) (by rfl) (fun w' hw' => by go_simp) ?_
      simp only [put_lit, List.set_cons_succ, List.set_cons_zero]
      refine wpQuiet_nil ?_
      intro wq hbq
      have HBQ := hide (HB2.out.trans (hbq.mono HB2.out.size))
      clear hbq
      go_wp2
      go_ret2
      exact ⟨rfl, HBQ.out⟩
    · have d2 : decide ((n : Int) ≤ x) = false := decide_eq_false g2
      by_cases g3 : y < 0
      · have d3 : decide (y < 0) = true := decide_eq_true g3
        clear hbad
        go_enter Try.func40, Try.ntmps40
        go_wp2_with fail
        rw [← HW2.out]
        refine wp_region_below (by kernel_rfl) (by kernel_rfl) ?_
        refine wpQuiet_val' (.slice A v cc) (by rfl) (fun w' hw' => by have e0 := (hw'.cell (p := ⟨wp0.heap.size + 1, 0, none⟩) lx1).trans hx1; go_simp) ?_
        simp only [put_lit, List.set_cons_succ, List.set_cons_zero]
        refine wpQuiet_call' 62 #[.slice A v cc] (.bool true) (by rfl) (fun w' hw' => by go_simp) (fun w' hw' => (HV.out w' hw').mono fun e w9 h9 => ⟨h9.1, hw'.trans (h9.2.mono hw'.size)⟩) ?_
        simp only [put_lit, List.set_cons_succ, List.set_cons_zero]
        refine wpQuiet_val' (.bool false) (by rfl) (fun w' hw' => by go_simp) ?_
        simp only [put_lit, List.set_cons_succ, List.set_cons_zero]
        refine wpQuiet_val' (.bool false) (by rfl) (fun w' hw' => by go_simp) ?_
        simp only [put_lit, List.set_cons_succ, List.set_cons_zero]
        refine wpQuiet_val' (.int .i64 x) (by rfl) (fun w' hw' => by go_simp) ?_
        simp only [put_lit, List.set_cons_succ, List.set_cons_zero]
        refine wpQuiet_val' (.bool false) (by rfl) (fun w' hw' => by go_simp) ?_
        simp only [put_lit, List.set_cons_succ, List.set_cons_zero]
        refine wpQuiet_val' (.bool false) (by rfl) (fun w' hw' => by go_simp) ?_
        simp only [put_lit, List.set_cons_succ, List.set_cons_zero]
        refine wpQuiet_val' (.bool false) (by rfl) (fun w' hw' => by go_simp) ?_
        simp only [put_lit, List.set_cons_succ, List.set_cons_zero]
        refine wpQuiet_val' (.int .i64 x) (by rfl) (fun w' hw' => by go_simp) ?_
        simp only [put_lit, List.set_cons_succ, List.set_cons_zero]
        refine wpQuiet_val' (.slice A v cc) (by rfl) (fun w' hw' => by have e0 := (hw'.cell (p := ⟨wp0.heap.size + 1, 0, none⟩) lx1).trans hx1; go_simp) ?_
        simp only [put_lit, List.set_cons_succ, List.set_cons_zero]
        refine wpQuiet_call' 60 #[.slice A v cc] (.int .i64 (n : Nat)) (by rfl) (fun w' hw' => by go_simp) (fun w' hw' => (HNA.out w' hw').mono fun e w9 h9 => ⟨h9.1, by rw [← h9.2]; exact hw'⟩) ?_
        simp only [put_lit, List.set_cons_succ, List.set_cons_zero]
        refine wpQuiet_val' (.bool false) (by rfl) (fun w' hw' => by go_simp) ?_
        simp only [put_lit, List.set_cons_succ, List.set_cons_zero]
        refine wpQuiet_val' (.bool false) (by rfl) (fun w' hw' => by go_simp) ?_
        simp only [put_lit, List.set_cons_succ, List.set_cons_zero]
        refine wpQuiet_val' (.bool false) (by rfl) (fun w' hw' => by go_simp) ?_
        simp only [put_lit, List.set_cons_succ, List.set_cons_zero]
        refine wpQuiet_val' (.int .i64 y) (by rfl) (fun w' hw' => by have e0 := (hw'.cell (p := ⟨wp0.heap.size, 0, none⟩) lx0).trans hx0; go_simp) ?_
        simp only [put_lit, List.set_cons_succ, List.set_cons_zero]
        refine wpQuiet_val' (.bool true) (by rfl) (fun w' hw' => by go_simp) ?_
        simp only [put_lit, List.set_cons_succ, List.set_cons_zero]
        refine wpQuiet_val' (.bool true) (by rfl) (fun w' hw' => by go_simp) ?_
        simp only [put_lit, List.set_cons_succ, List.set_cons_zero]
        refine wpQuiet_val' (.bool true) (by rfl) (fun w' hw' => by go_simp) ?_
        simp only [put_lit, List.set_cons_succ, List.set_cons_zero]
        go_big_quiet_skip
        go_big_quiet_skip
        go_big_quiet_skip
        go_big_quiet_skip
        refine wpQuiet_val' (.bool true) (by rfl) (fun w' hw' => by go_simp) ?_
        simp only [put_lit, List.set_cons_succ, List.set_cons_zero]
        refine wpQuiet_val' (.bool true) (by rfl) (fun w' hw' => by go_simp) ?_
        simp only [put_lit, List.set_cons_succ, List.set_cons_zero]
        go_big_quiet_skip
        go_big_quiet_skip
        go_big_quiet_skip
        refine wpQuiet_val' (.bool true) (by rfl) (fun w' hw' => by go_simp) ?_
        simp only [put_lit, List.set_cons_succ, List.set_cons_zero]
        refine wpQuiet_nil ?_
        intro wq hbq
        have HBQ := hide (HB2.out.trans (hbq.mono HB2.out.size))
        clear hbq
        go_wp2
        go_ret2
        exact ⟨rfl, HBQ.out⟩
      · have d3 : decide (y < 0) = false := decide_eq_false g3
        by_cases g4 : (n : Int) ≤ y
        · have d4 : decide ((n : Int) ≤ y) = true := decide_eq_true g4
          clear hbad
          go_enter Try.func40, Try.ntmps40
          go_wp2_with fail
          rw [← HW2.out]
          refine wp_region_below (by kernel_rfl) (by kernel_rfl) ?_
          refine wpQuiet_val' (.slice A v cc) (by rfl) (fun w' hw' => by have e0 := (hw'.cell (p := ⟨wp0.heap.size + 1, 0, none⟩) lx1).trans hx1; go_simp) ?_
          simp only [put_lit, List.set_cons_succ, List.set_cons_zero]
          refine wpQuiet_call' 62 #[.slice A v cc] (.bool true) (by rfl) (fun w' hw' => by go_simp) (fun w' hw' => (HV.out w' hw').mono fun e w9 h9 => ⟨h9.1, hw'.trans (h9.2.mono hw'.size)⟩) ?_
          simp only [put_lit, List.set_cons_succ, List.set_cons_zero]
          refine wpQuiet_val' (.bool false) (by rfl) (fun w' hw' => by go_simp) ?_
          simp only [put_lit, List.set_cons_succ, List.set_cons_zero]
          refine wpQuiet_val' (.bool false) (by rfl) (fun w' hw' => by go_simp) ?_
          simp only [put_lit, List.set_cons_succ, List.set_cons_zero]
          refine wpQuiet_val' (.int .i64 x) (by rfl) (fun w' hw' => by go_simp) ?_
          simp only [put_lit, List.set_cons_succ, List.set_cons_zero]
          refine wpQuiet_val' (.bool false) (by rfl) (fun w' hw' => by go_simp) ?_
          simp only [put_lit, List.set_cons_succ, List.set_cons_zero]
          refine wpQuiet_val' (.bool false) (by rfl) (fun w' hw' => by go_simp) ?_
          simp only [put_lit, List.set_cons_succ, List.set_cons_zero]
          refine wpQuiet_val' (.bool false) (by rfl) (fun w' hw' => by go_simp) ?_
          simp only [put_lit, List.set_cons_succ, List.set_cons_zero]
          refine wpQuiet_val' (.int .i64 x) (by rfl) (fun w' hw' => by go_simp) ?_
          simp only [put_lit, List.set_cons_succ, List.set_cons_zero]
          refine wpQuiet_val' (.slice A v cc) (by rfl) (fun w' hw' => by have e0 := (hw'.cell (p := ⟨wp0.heap.size + 1, 0, none⟩) lx1).trans hx1; go_simp) ?_
          simp only [put_lit, List.set_cons_succ, List.set_cons_zero]
          refine wpQuiet_call' 60 #[.slice A v cc] (.int .i64 (n : Nat)) (by rfl) (fun w' hw' => by go_simp) (fun w' hw' => (HNA.out w' hw').mono fun e w9 h9 => ⟨h9.1, by rw [← h9.2]; exact hw'⟩) ?_
          simp only [put_lit, List.set_cons_succ, List.set_cons_zero]
          refine wpQuiet_val' (.bool false) (by rfl) (fun w' hw' => by go_simp) ?_
          simp only [put_lit, List.set_cons_succ, List.set_cons_zero]
          refine wpQuiet_val' (.bool false) (by rfl) (fun w' hw' => by go_simp) ?_
          simp only [put_lit, List.set_cons_succ, List.set_cons_zero]
          refine wpQuiet_val' (.bool false) (by rfl) (fun w' hw' => by go_simp) ?_
          simp only [put_lit, List.set_cons_succ, List.set_cons_zero]
          refine wpQuiet_val' (.int .i64 y) (by rfl) (fun w' hw' => by have e0 := (hw'.cell (p := ⟨wp0.heap.size, 0, none⟩) lx0).trans hx0; go_simp) ?_
          simp only [put_lit, List.set_cons_succ, List.set_cons_zero]
          refine wpQuiet_val' (.bool false) (by rfl) (fun w' hw' => by go_simp) ?_
          simp only [put_lit, List.set_cons_succ, List.set_cons_zero]
          refine wpQuiet_val' (.bool false) (by rfl) (fun w' hw' => by go_simp) ?_
          simp only [put_lit, List.set_cons_succ, List.set_cons_zero]
          refine wpQuiet_val' (.bool false) (by rfl) (fun w' hw' => by go_simp) ?_
          simp only [put_lit, List.set_cons_succ, List.set_cons_zero]
          refine wpQuiet_val' (.int .i64 y) (by rfl) (fun w' hw' => by have e0 := (hw'.cell (p := ⟨wp0.heap.size, 0, none⟩) lx0).trans hx0; go_simp) ?_
          simp only [put_lit, List.set_cons_succ, List.set_cons_zero]
          refine wpQuiet_val' (.slice A v cc) (by rfl) (fun w' hw' => by have e0 := (hw'.cell (p := ⟨wp0.heap.size + 1, 0, none⟩) lx1).trans hx1; go_simp) ?_
          simp only [put_lit, List.set_cons_succ, List.set_cons_zero]
          refine wpQuiet_call' 60 #[.slice A v cc] (.int .i64 (n : Nat)) (by rfl) (fun w' hw' => by go_simp) (fun w' hw' => (HNA.out w' hw').mono fun e w9 h9 => ⟨h9.1, by rw [← h9.2]; exact hw'⟩) ?_
          simp only [put_lit, List.set_cons_succ, List.set_cons_zero]
          refine wpQuiet_val' (.bool true) (by rfl) (fun w' hw' => by go_simp) ?_
          simp only [put_lit, List.set_cons_succ, List.set_cons_zero]
          refine wpQuiet_val' (.bool true) (by rfl) (fun w' hw' => by go_simp) ?_
          simp only [put_lit, List.set_cons_succ, List.set_cons_zero]
          refine wpQuiet_val' (.bool true) (by rfl) (fun w' hw' => by go_simp) ?_
          simp only [put_lit, List.set_cons_succ, List.set_cons_zero]
          go_big_quiet_skip
          go_big_quiet_skip
          go_big_quiet_skip
          refine wpQuiet_val' (.bool true) (by rfl) (fun w' hw' => by go_simp) ?_
          simp only [put_lit, List.set_cons_succ, List.set_cons_zero]
          refine wpQuiet_nil ?_
          intro wq hbq
          have HBQ := hide (HB2.out.trans (hbq.mono HB2.out.size))
          clear hbq
          go_wp2
          go_ret2
          exact ⟨rfl, HBQ.out⟩
        · have d4 : decide ((n : Int) ≤ y) = false := decide_eq_false g4
          obtain rfl : x = y := by omega
          clear hbad
          go_enter Try.func40, Try.ntmps40
          go_wp2_with fail
          rw [← HW2.out]
          refine wp_region_below (by kernel_rfl) (by kernel_rfl) ?_
          refine wpQuiet_val' (.slice A v cc) (by rfl) (fun w' hw' => by have e0 := (hw'.cell (p := ⟨wp0.heap.size + 1, 0, none⟩) lx1).trans hx1; go_simp) ?_
          simp only [put_lit, List.set_cons_succ, List.set_cons_zero]
          refine wpQuiet_call' 62 #[.slice A v cc] (.bool true) (by rfl) (fun w' hw' => by go_simp) (fun w' hw' => (HV.out w' hw').mono fun e w9 h9 => ⟨h9.1, hw'.trans (h9.2.mono hw'.size)⟩) ?_
          simp only [put_lit, List.set_cons_succ, List.set_cons_zero]
          refine wpQuiet_val' (.bool false) (by rfl) (fun w' hw' => by go_simp) ?_
          simp only [put_lit, List.set_cons_succ, List.set_cons_zero]
          refine wpQuiet_val' (.bool false) (by rfl) (fun w' hw' => by go_simp) ?_
          simp only [put_lit, List.set_cons_succ, List.set_cons_zero]
          refine wpQuiet_val' (.int .i64 x) (by rfl) (fun w' hw' => by go_simp) ?_
          simp only [put_lit, List.set_cons_succ, List.set_cons_zero]
          refine wpQuiet_val' (.bool false) (by rfl) (fun w' hw' => by go_simp) ?_
          simp only [put_lit, List.set_cons_succ, List.set_cons_zero]
          refine wpQuiet_val' (.bool false) (by rfl) (fun w' hw' => by go_simp) ?_
          simp only [put_lit, List.set_cons_succ, List.set_cons_zero]
          refine wpQuiet_val' (.bool false) (by rfl) (fun w' hw' => by go_simp) ?_
          simp only [put_lit, List.set_cons_succ, List.set_cons_zero]
          refine wpQuiet_val' (.int .i64 x) (by rfl) (fun w' hw' => by go_simp) ?_
          simp only [put_lit, List.set_cons_succ, List.set_cons_zero]
          refine wpQuiet_val' (.slice A v cc) (by rfl) (fun w' hw' => by have e0 := (hw'.cell (p := ⟨wp0.heap.size + 1, 0, none⟩) lx1).trans hx1; go_simp) ?_
          simp only [put_lit, List.set_cons_succ, List.set_cons_zero]
          refine wpQuiet_call' 60 #[.slice A v cc] (.int .i64 (n : Nat)) (by rfl) (fun w' hw' => by go_simp) (fun w' hw' => (HNA.out w' hw').mono fun e w9 h9 => ⟨h9.1, by rw [← h9.2]; exact hw'⟩) ?_
          simp only [put_lit, List.set_cons_succ, List.set_cons_zero]
          refine wpQuiet_val' (.bool false) (by rfl) (fun w' hw' => by go_simp) ?_
          simp only [put_lit, List.set_cons_succ, List.set_cons_zero]
          refine wpQuiet_val' (.bool false) (by rfl) (fun w' hw' => by go_simp) ?_
          simp only [put_lit, List.set_cons_succ, List.set_cons_zero]
          refine wpQuiet_val' (.bool false) (by rfl) (fun w' hw' => by go_simp) ?_
          simp only [put_lit, List.set_cons_succ, List.set_cons_zero]
          refine wpQuiet_val' (.int .i64 x) (by rfl) (fun w' hw' => by have e0 := (hw'.cell (p := ⟨wp0.heap.size, 0, none⟩) lx0).trans hx0; go_simp) ?_
          simp only [put_lit, List.set_cons_succ, List.set_cons_zero]
          refine wpQuiet_val' (.bool false) (by rfl) (fun w' hw' => by go_simp) ?_
          simp only [put_lit, List.set_cons_succ, List.set_cons_zero]
          refine wpQuiet_val' (.bool false) (by rfl) (fun w' hw' => by go_simp) ?_
          simp only [put_lit, List.set_cons_succ, List.set_cons_zero]
          refine wpQuiet_val' (.bool false) (by rfl) (fun w' hw' => by go_simp) ?_
          simp only [put_lit, List.set_cons_succ, List.set_cons_zero]
          refine wpQuiet_val' (.int .i64 x) (by rfl) (fun w' hw' => by have e0 := (hw'.cell (p := ⟨wp0.heap.size, 0, none⟩) lx0).trans hx0; go_simp) ?_
          simp only [put_lit, List.set_cons_succ, List.set_cons_zero]
          refine wpQuiet_val' (.slice A v cc) (by rfl) (fun w' hw' => by have e0 := (hw'.cell (p := ⟨wp0.heap.size + 1, 0, none⟩) lx1).trans hx1; go_simp) ?_
          simp only [put_lit, List.set_cons_succ, List.set_cons_zero]
          refine wpQuiet_call' 60 #[.slice A v cc] (.int .i64 (n : Nat)) (by rfl) (fun w' hw' => by go_simp) (fun w' hw' => (HNA.out w' hw').mono fun e w9 h9 => ⟨h9.1, by rw [← h9.2]; exact hw'⟩) ?_
          simp only [put_lit, List.set_cons_succ, List.set_cons_zero]
          refine wpQuiet_val' (.bool false) (by rfl) (fun w' hw' => by go_simp) ?_
          simp only [put_lit, List.set_cons_succ, List.set_cons_zero]
          refine wpQuiet_val' (.bool false) (by rfl) (fun w' hw' => by go_simp) ?_
          simp only [put_lit, List.set_cons_succ, List.set_cons_zero]
          refine wpQuiet_val' (.bool false) (by rfl) (fun w' hw' => by go_simp) ?_
          simp only [put_lit, List.set_cons_succ, List.set_cons_zero]
          refine wpQuiet_val' (.int .i64 x) (by rfl) (fun w' hw' => by go_simp) ?_
          simp only [put_lit, List.set_cons_succ, List.set_cons_zero]
          refine wpQuiet_val' (.int .i64 x) (by rfl) (fun w' hw' => by have e0 := (hw'.cell (p := ⟨wp0.heap.size, 0, none⟩) lx0).trans hx0; go_simp) ?_
          simp only [put_lit, List.set_cons_succ, List.set_cons_zero]
          refine wpQuiet_val' (.bool true) (by rfl) (fun w' hw' => by go_simp) ?_
          simp only [put_lit, List.set_cons_succ, List.set_cons_zero]
          refine wpQuiet_val' (.bool true) (by rfl) (fun w' hw' => by go_simp) ?_
          simp only [put_lit, List.set_cons_succ, List.set_cons_zero]
          refine wpQuiet_nil ?_
          intro wq hbq
          have HBQ := hide (HB2.out.trans (hbq.mono HB2.out.size))
          clear hbq
          go_wp2
          go_ret2
          exact ⟨rfl, HBQ.out⟩
end Go.Proofs.Ytejijddfepgnkaa
