/-
  vote: ballots.paths: the first candidate who is at least as strong as all others.
-/
import Derived.Test.YtejijddfepgnkaaWidths
import Derived.Test.YtejijddfepgnkaaIdxFuncBel
namespace Go.Proofs.Ytejijddfepgnkaa
open Go.RowKit
set_option linter.unusedVariables false
set_option linter.unusedSimpArgs false

theorem goes_paths11 : Goes Try.prog 109 := goes_of Try.func109 (by kernel_rfl) (by kernel_rfl)
theorem goes_paths1 : Goes Try.prog 108 := goes_of Try.func108 (by kernel_rfl) (by kernel_rfl)

set_option maxRecDepth 100000 in
set_option maxHeartbeats 1600000 in
theorem paths11_any (M : Mat) (a c mb ab : Nat) (w : World) (ha : a < 5) (hc : c < 5) (hm : w.heap[mb]? = some (.cells (matC M) 80 (0, 0))) (hab : w.cell? ⟨ab, 0, none⟩ = some (.int .i64 a)) :
    Calls Try.prog 109 (#[.int .i64 (c : Nat)] ++ #[.pointer (some ⟨mb, 0, none⟩), .pointer (some ⟨ab, 0, none⟩)]) w fun e w' => e = .returned (.bool (decide (M a c < M c a))) ∧ Below w.heap.size w w' := by
  have q1 : w.cell? ⟨mb, a * 5 + c, none⟩ = some (.int .i64 (M a c)) := (blk_cell hm _).trans (matC_at M ha hc)
  have q2 : w.cell? ⟨mb, c * 5 + a, none⟩ = some (.int .i64 (M c a)) := (blk_cell hm _).trans (matC_at M hc ha)
  have l1 : mb < w.heap.size := lt_of_block hm
  have l2 : ab < w.heap.size := cell_lt hab
  have i1 : (a : Int) < 5 := by omega
  have i2 : (c : Int) < 5 := by omega
  generalize M a c = x1 at *
  generalize M c a = x2 at *
  clear hm
  go_enter Try.func109, Try.ntmps109
  go_upto_region 1 with (fail)
  refine wp_region_below (by kernel_rfl) (by kernel_rfl) ?_
  refine wpQuiet_val' (.int .i64 a) (by rfl) (fun w' hw' => by have e0 := (hw'.cell (p := ⟨ab, 0, none⟩) l2).trans hab; go_simp) ?_
  simp only [put_lit, List.set_cons_succ, List.set_cons_zero]
  refine wpQuiet_val' (.int .i64 c) (by rfl) (fun w' hw' => by go_simp) ?_
  simp only [put_lit, List.set_cons_succ, List.set_cons_zero]
  refine wpQuiet_val' (.pointer (some ⟨mb, a * 5, none⟩)) (by rfl) (fun w' hw' => by go_simp) ?_
  simp only [put_lit, List.set_cons_succ, List.set_cons_zero]
  refine wpQuiet_val' (.pointer (some ⟨mb, a * 5 + c, none⟩)) (by rfl) (fun w' hw' => by go_simp) ?_
  simp only [put_lit, List.set_cons_succ, List.set_cons_zero]
  refine wpQuiet_val' (.int .i64 x1) (by rfl) (fun w' hw' => by have e0 := (hw'.cell (p := ⟨mb, a * 5 + c, none⟩) l1).trans q1; go_simp) ?_
  simp only [put_lit, List.set_cons_succ, List.set_cons_zero]
  refine wpQuiet_val' (.int .i64 c) (by rfl) (fun w' hw' => by go_simp) ?_
  simp only [put_lit, List.set_cons_succ, List.set_cons_zero]
  refine wpQuiet_val' (.int .i64 a) (by rfl) (fun w' hw' => by have e0 := (hw'.cell (p := ⟨ab, 0, none⟩) l2).trans hab; go_simp) ?_
  simp only [put_lit, List.set_cons_succ, List.set_cons_zero]
  refine wpQuiet_val' (.pointer (some ⟨mb, c * 5, none⟩)) (by rfl) (fun w' hw' => by go_simp) ?_
  simp only [put_lit, List.set_cons_succ, List.set_cons_zero]
  refine wpQuiet_val' (.pointer (some ⟨mb, c * 5 + a, none⟩)) (by rfl) (fun w' hw' => by go_simp) ?_
  simp only [put_lit, List.set_cons_succ, List.set_cons_zero]
  refine wpQuiet_val' (.int .i64 x2) (by rfl) (fun w' hw' => by have e0 := (hw'.cell (p := ⟨mb, c * 5 + a, none⟩) l1).trans q2; go_simp) ?_
  simp only [put_lit, List.set_cons_succ, List.set_cons_zero]
  refine wpQuiet_val' (.bool (decide (x1 < x2))) (by rfl) (fun w' hw' => by go_simp) ?_
  simp only [put_lit, List.set_cons_succ, List.set_cons_zero]
  refine wpQuiet_val' (.bool (decide (x1 < x2))) (by rfl) (fun w' hw' => by go_simp) ?_
  simp only [put_lit, List.set_cons_succ, List.set_cons_zero]
  refine wpQuiet_nil ?_
  intro w9 hb9
  go_wp2
  go_ret
  exact ⟨rfl, hb9⟩

/-- a is at least as strong as all others. -/
def strongB (M : Mat) (n a : Nat) : Bool := !decide (0 ≤ fidx n fun c => decide (M a c < M c a))
theorem range_at {n k : Nat} {x : Int} (hk : k < n) (h : (up (List.range n)).getD k 0 = x) : x = (k : Nat) := by
  rw [up_getD] at h
  rw [← h]
  simp [List.getD_eq_getElem?_getD, hk]

set_option maxRecDepth 100000 in
set_option maxHeartbeats 1600000 in
theorem paths1_any (A : Option Addr) (v n cc lb mb a : Nat) (M : Mat) (W : List (List Nat)) (w : World) (hW : BOk W v n) (hA : RowsA w w.heap.size A (upp W)) (ha : a < n) (hl : w.cell? ⟨lb, 0, none⟩ = some (.slice A v cc)) (hm : w.heap[mb]? = some (.cells (matC M) 80 (0, 0))) :
    Calls Try.prog 108 (#[.int .i64 (a : Nat)] ++ #[.pointer (some ⟨lb, 0, none⟩), .pointer (some ⟨mb, 0, none⟩)]) w fun e w' => e = .returned (.bool (strongB M n a)) ∧ Below w.heap.size w w' := by
  have hn5 := hW.nle
  obtain ⟨w1, hw1⟩ : ∃ w1, w1 = w.alloc (.cells #[.int .i64 a] 3) := ⟨_, rfl⟩
  have hb1 : Below w.heap.size w w1 := by subst hw1; exact (Below.refl _ _).alloc (Nat.le_refl _) _
  have hs1 : w1.heap.size = w.heap.size + 1 := by subst hw1; simp
  have c1 : w1.cell? ⟨w.heap.size, 0, none⟩ = some (.int .i64 a) := by subst hw1; rw [World.cell?_alloc_at _ _ _ _ rfl]; rfl
  have hl1 := (hb1.cell (p := ⟨lb, 0, none⟩) (cell_lt hl)).trans hl
  have HNA := hide (names_any A v n cc w1.heap.size W w1 hW (hA.next hb1))
  have HUP := hide (upTo_any n w1 (by omega))
  have hmf : ∀ (fn : Fn) (first cap : Array Value) (w : World), (Instr.makeFunc fn first cap).run Try.prog w = .ok (.func fn first cap) w := fun _ _ _ _ => rfl
  have HCF : Hid (∀ (H : Option Addr) (c' : Nat) (w2 : World), Below w1.heap.size w1 w2 → IntsA w2 w2.heap.size H (up (List.range n)) → Calls Try.prog 98 #[.slice H n c', .func (.func 109) #[] #[.pointer (some ⟨mb, 0, none⟩), .pointer (some ⟨w.heap.size, 0, none⟩)]] w2 fun e w' => e = .returned (.bool (decide (0 ≤ fidx n fun c => decide (M a c < M c a)))) ∧ Below w2.heap.size w2 w') := fun H c' w2 hb2 hI =>
    containsFuncI_bel _ _ H n c' (up (List.range n)) _ w2 goes_paths11 (by rw [up_length]; simp) (by omega) hI fun k x w' hk hx hb' => by
      have := range_at hk hx
      subst this
      have hb3 := hb2.trans (hb'.mono hb2.size)
      exact paths11_any M a k mb w.heap.size w' (by omega) (by omega) ((hb3.block mb (by have := lt_of_block hm; omega)).trans ((hb1.block mb (lt_of_block hm)).trans hm)) ((hb3.cell (p := ⟨w.heap.size, 0, none⟩) (by show w.heap.size < _; omega)).trans c1)
  have HB1 := hide hb1
  have HS : Hid (strongB M n a = !decide (0 ≤ fidx n fun c => decide (M a c < M c a))) := rfl
  generalize decide (0 ≤ fidx n fun c => decide (M a c < M c a)) = r at *
  clear hW hA hm hl hb1 c1
  go_enter Try.func108, Try.ntmps108
  go_upto_region 1 with (fail)
  rw [← hw1]
  clear hw1
  go_wp2_with (first
    | (go_at_call 60; refine (HNA.out).mono ?_; rintro e w' ⟨rfl, rfl⟩)
    | (go_at_call 59; refine (HUP.out).mono ?_; rintro e w2 ⟨H, c', rfl, hcc, hown, hb2⟩; have HI := hide (ints_of_own hown); have HB2 := hide hb2; clear hown hb2)
    | (go_at_call 98; refine (HCF.out _ _ _ HB2.out HI.out).mono ?_; rintro e w3 ⟨rfl, hb3⟩; have HB3 := hide hb3; clear hb3))
  go_ret
  refine ⟨by rw [HS.out]; rfl, ?_⟩
  have hb12 := HB1.out.trans (HB2.out.mono HB1.out.size)
  exact hb12.trans (HB3.out.mono hb12.size)

/-- The winner by paths, as the program looks for it. -/
def pathsN (M : Mat) (n : Nat) : Int := fidx n fun a => strongB M n a
set_option maxRecDepth 100000 in
set_option maxHeartbeats 1600000 in
theorem paths_any (A : Option Addr) (v n c : Nat) (W : List (List Nat)) (w : World) (hW : BOk W v n) (hA : RowsA w w.heap.size A (upp W)) :
    Calls Try.prog 94 #[.slice A v c] w fun e w' => e = .returned (.int .i64 (pathsN (widM n (margM W)) n)) ∧ Below w.heap.size w w' := by
  have hn5 := hW.nle
  obtain ⟨w1, hw1⟩ : ∃ w1, w1 = w.alloc (.cells #[.slice A v c] 67) := ⟨_, rfl⟩
  have hb1 : Below w.heap.size w w1 := by subst hw1; exact (Below.refl _ _).alloc (Nat.le_refl _) _
  have hs1 : w1.heap.size = w.heap.size + 1 := by subst hw1; simp
  have c1 : w1.cell? ⟨w.heap.size, 0, none⟩ = some (.slice A v c) := by subst hw1; rw [World.cell?_alloc_at _ _ _ _ rfl]; rfl
  have HWD := hide (widths_any A v n c W w1 hW (hA.next hb1))
  have HI9 : Hid (∀ M : Mat, (Try.prog.info? 80).map (·.size) = some (matC M).size) := fun M => by rw [matC_size]; kernel_rfl
  have HSZ : Hid (∀ M M' : Mat, (matC M).size = (matC M').size) := fun M M' => by rw [matC_size, matC_size]
  have hz : Hid (matC (fun _ _ => 0) = #[.int .i64 0, .int .i64 0, .int .i64 0, .int .i64 0, .int .i64 0, .int .i64 0, .int .i64 0, .int .i64 0, .int .i64 0, .int .i64 0, .int .i64 0, .int .i64 0, .int .i64 0, .int .i64 0, .int .i64 0, .int .i64 0, .int .i64 0, .int .i64 0, .int .i64 0, .int .i64 0, .int .i64 0, .int .i64 0, .int .i64 0, .int .i64 0, .int .i64 0]) := matC_zero
  have hmf : ∀ (fn : Fn) (first cap : Array Value) (w : World), (Instr.makeFunc fn first cap).run Try.prog w = .ok (.func fn first cap) w := fun _ _ _ _ => rfl
  have HW := hide hW
  have HA := hide hA
  have HB1 := hide hb1
  have HC1 := hide c1
  have hc1 := c1
  generalize widM n (margM W) = M at *
  clear hW hA hb1 c1
  go_enter Try.func94, Try.ntmps94
  go_upto_region 1 with (fail)
  rw [← hw1]
  clear hw1
  go_upto_region 2 with (first
    | (go_at_call 73; refine (HWD.out).mono ?_; rintro e w2 ⟨rfl, hb2⟩; have HB2 := hide hb2; clear hb2)
    | (rw [← hz.out]; (with_reducible show wpList _ _ _ (⟨none, _, _, _, _, _⟩ :: _) _ _); refine wpList_store_row rfl 80 _ _ rfl w2.heap.size (matC M) rfl rfl _ _ (alloc_new _ _ _ rfl) (HI9.out _) (HSZ.out _ _) (matC_one M) ?_))
  obtain ⟨w4, hw4⟩ : ∃ w4, w4 = (w2.alloc (.cells (matC fun _ _ => 0) 80)).setRow w2.heap.size (matC M) := ⟨_, rfl⟩
  have hs2 := HB2.out.size
  have hb4 : Below w1.heap.size w1 w4 := by subst hw4; exact below_setRow (HB2.out.alloc hs2 _) hs2 _
  have hm4 : w4.heap[w2.heap.size]? = some (.cells (matC M) 80 (0, 0)) := by subst hw4; exact setRow_blk (alloc_new _ _ _ rfl)
  have hz4 : w2.heap.size < w4.heap.size := lt_of_block hm4
  have hbw4 : Below w.heap.size w w4 := HB1.out.trans (hb4.mono HB1.out.size)
  rw [← hw4]
  clear hw4
  have c4 : w4.cell? ⟨w.heap.size, 0, none⟩ = some (.slice A v c) := (hb4.cell (p := ⟨w.heap.size, 0, none⟩) (by show w.heap.size < _; omega)).trans HC1.out
  have HNA := hide (names_any A v n c w4.heap.size W w4 HW.out (HA.out.next hbw4))
  have HUP := hide (upTo_any n w4 (by omega))
  have HIF : Hid (∀ (H : Option Addr) (c' : Nat) (w5 : World), Below w4.heap.size w4 w5 → IntsA w5 w5.heap.size H (up (List.range n)) → Calls Try.prog 107 #[.slice H n c', .func (.func 108) #[] #[.pointer (some ⟨w.heap.size, 0, none⟩), .pointer (some ⟨w2.heap.size, 0, none⟩)]] w5 fun e w' => e = .returned (.int .i64 (pathsN M n)) ∧ Below w5.heap.size w5 w') := fun H c' w5 hb5 hI =>
    indexFuncI_bel _ _ H n c' (up (List.range n)) _ w5 goes_paths1 (by rw [up_length]; simp) (by omega) hI fun k x w' hk hx hb' => by
      have := range_at hk hx
      subst this
      have hb6 := hb5.trans (hb'.mono hb5.size)
      exact paths1_any A v n c w.heap.size w2.heap.size k M W w' HW.out (HA.out.next (hbw4.trans (hb6.mono hbw4.size))) hk ((hb6.cell (p := ⟨w.heap.size, 0, none⟩) (by show w.heap.size < _; omega)).trans c4) ((hb6.block _ hz4).trans hm4)
  have HBW4 := hide hbw4
  clear hs2 hb4 hm4 hbw4
  go_wp2_with (first
    | (go_at_call 60; refine (HNA.out).mono ?_; rintro e w' ⟨rfl, rfl⟩)
    | (go_at_call 59; refine (HUP.out).mono ?_; rintro e w5 ⟨H, c', rfl, hcc, hown, hb5⟩; have HI := hide (ints_of_own hown); have HB5 := hide hb5; clear hown hb5)
    | (go_at_call 107; refine (HIF.out _ _ _ HB5.out HI.out).mono ?_; rintro e w6 ⟨rfl, hb6⟩; have HB6 := hide hb6; clear hb6))
  go_ret
  refine ⟨rfl, ?_⟩
  have hb12 := HBW4.out.trans (HB5.out.mono HBW4.out.size)
  exact hb12.trans (HB6.out.mono hb12.size)
end Go.Proofs.Ytejijddfepgnkaa
