/-
  vote: ballots.widths.
-/
import Derived.Test.YtejijddfepgnkaaMargins
import Derived.Test.YtejijddfepgnkaaUpTo
namespace Go.Proofs.Ytejijddfepgnkaa
open Go.RowKit
set_option linter.unusedVariables false
set_option linter.unusedSimpArgs false

def relaxM (k i j : Nat) (M : Mat) : Mat := fun a b => if (a = i ∧ b = j) ∧ i ≠ j ∧ i ≠ k ∧ j ≠ k then max (M i j) (min (M i k) (M k j)) else M a b
def uptoM (f : Nat → Mat → Mat) : Nat → Mat → Mat
  | 0, M => M
  | m + 1, M => f m (uptoM f m M)
def widM (n : Nat) (M : Mat) : Mat := uptoM (fun k => uptoM (fun i => uptoM (fun j => relaxM k i j) n) n) n M
theorem relaxM_no {k i j : Nat} (M : Mat) (h : ¬ (i ≠ j ∧ i ≠ k ∧ j ≠ k)) : relaxM k i j M = M := by
  funext a b
  unfold relaxM
  rw [if_neg (fun h2 => h h2.2)]
theorem relaxM_yes {k i j : Nat} (M : Mat) (h : i ≠ j ∧ i ≠ k ∧ j ≠ k) : relaxM k i j M = fun a b => if a = i ∧ b = j then max (M i j) (min (M i k) (M k j)) else M a b := by
  funext a b
  unfold relaxM
  simp only [h, ne_eq, not_false_eq_true, and_self, and_true]

theorem setRow_far {w : World} {g b : Nat} {c : Array Value} (h : b ≠ g) : (w.setRow g c).heap[b]? = w.heap[b]? := by
  simp only [World.setRow, Array.getElem?_modify]
  rw [if_neg (fun e => h e.symm)]
structure WMem (w wr : World) (mb : Nat) (M : Mat) : Prop where
  res : wr.heap[w.heap.size]? = some (.cells (matC fun _ _ => 0) 80 (0, 0))
  mat : wr.heap[mb]? = some (.cells (matC M) 80 (0, 0))
  lt : w.heap.size < mb
  bel : Below w.heap.size w wr
theorem WMem.step {w wr : World} {mb : Nat} {M : Mat} (h : WMem w wr mb M) {x y : Nat} (hx : x < 5) (hy : y < 5) (z : Int) : WMem w (wr.setCell ⟨mb, x * 5 + y, none⟩ (.int .i64 z)) mb (fun a b => if a = x ∧ b = y then z else M a b) :=
  ⟨(blk_far _ (by have := h.lt; omega)).trans h.res, by rw [← matC_set M hx hy]; exact blk_set h.mat _ _, h.lt, h.bel.setCell (by show w.heap.size ≤ mb; have := h.lt; omega) _⟩
theorem WMem.drew {w wr : World} {mb : Nat} {M : Mat} (h : WMem w wr mb M) : WMem w wr.drew mb M := ⟨h.res, h.mat, h.lt, h.bel.drew⟩

set_option maxRecDepth 100000 in
set_option maxHeartbeats 3200000 in
theorem widths_any (A : Option Addr) (v n c : Nat) (W : List (List Nat)) (w : World) (hW : BOk W v n) (hA : RowsA w w.heap.size A (upp W)) :
    Calls Try.prog 73 #[.slice A v c] w fun e w' => e = .returned (.agg (matC (widM n (margM W)))) ∧ Below w.heap.size w w' := by
  have hn5 := hW.nle
  have HW := hide hW
  have HA := hide hA
  obtain ⟨w1, hw1⟩ : ∃ w1, w1 = w.alloc (.cells (matC fun _ _ => 0) 80) := ⟨_, rfl⟩
  have hb1 : Below w.heap.size w w1 := by subst hw1; exact (Below.refl _ _).alloc (Nat.le_refl _) _
  have hr1 : w1.heap[w.heap.size]? = some (.cells (matC fun _ _ => 0) 80 (0, 0)) := by subst hw1; exact alloc_new _ _ _ rfl
  have HR1 := hide hr1
  have HB1 := hide hb1
  have HMG := hide (margins_any A v n c W w1 hW (hA.next hb1))
  have HNA := hide (fun w' (hw' : Below w.heap.size w w') => names_any A v n c w.heap.size W w' hW (hA.below hw'))
  have hu : Try.prog.underlying 80 = some (.array 5 78) := by kernel_rfl
  have HU := hide hu
  have HI9 : Hid (∀ M : Mat, (Try.prog.info? 80).map (·.size) = some (matC M).size) := fun M => by rw [matC_size]; kernel_rfl
  have HSZ : Hid (∀ M M' : Mat, (matC M).size = (matC M').size) := fun M M' => by rw [matC_size, matC_size]
  rw [matC_zero] at hw1
  have hz : Hid (matC (fun _ _ => 0) = #[.int .i64 0, .int .i64 0, .int .i64 0, .int .i64 0, .int .i64 0, .int .i64 0, .int .i64 0, .int .i64 0, .int .i64 0, .int .i64 0, .int .i64 0, .int .i64 0, .int .i64 0, .int .i64 0, .int .i64 0, .int .i64 0, .int .i64 0, .int .i64 0, .int .i64 0, .int .i64 0, .int .i64 0, .int .i64 0, .int .i64 0, .int .i64 0, .int .i64 0]) := matC_zero
  clear hW hA hb1 hr1 hu
  generalize margM W = M0 at *
  go_enter Try.func73, Try.ntmps73
  go_upto_region 1 with (fail)
  rw [← hw1]
  clear hw1
  go_wp2_with (first
    | (go_at_call 69; refine (HMG.out).mono ?_; rintro e w2 ⟨rfl, hb2⟩; have HB2 := hide hb2; clear hb2)
    | (go_at_call 60; refine (HNA.out w2 (HB1.out.trans (HB2.out.mono HB1.out.size))).mono ?_; rintro e w3 ⟨rfl, rfl⟩)
    | (rw [← hz.out]; (with_reducible show wpList _ _ _ (⟨none, _, _, _, _, _⟩ :: _) _ _); refine wpList_store_row rfl 80 _ _ rfl w2.heap.size (matC M0) rfl rfl _ _ (alloc_new _ _ _ rfl) (HI9.out _) (HSZ.out _ _) (matC_one M0) ?_))
  obtain ⟨mb, hmb⟩ : ∃ mb, w2.heap.size = mb := ⟨_, rfl⟩
  obtain ⟨w4, hw4⟩ : ∃ w4, w4 = (w2.alloc (.cells (matC fun _ _ => 0) 80)).setRow w2.heap.size (matC M0) := ⟨_, rfl⟩
  have hsz1 : w.heap.size < w1.heap.size := lt_of_block HR1.out
  have hsz2 := HB2.out.size
  have hm0 : WMem w w4 mb M0 := by
    subst hw4
    refine ⟨?_, ?_, by omega, ?_⟩
    · rw [setRow_far (by omega)]
      exact alloc_old _ _ _ (by omega) ((HB2.out.block _ hsz1).trans HR1.out)
    · rw [← hmb]; exact setRow_blk (alloc_new _ _ _ rfl)
    · exact below_setRow ((HB1.out.trans (HB2.out.mono HB1.out.size)).alloc (by omega) _) (by omega) _
  rw [← hw4, hmb]
  have HM0 := hide hm0
  clear hm0 hw4 hmb hsz1 hsz2
  go_loopw [13] (fun s wr => ∃ k : Nat, k ≤ n ∧ s = .int .i64 k ∧ WMem w wr mb (uptoM (fun k => uptoM (fun i => uptoM (fun j => relaxM k i j) n) n) k M0)) (fun s _ => n - (intOf s).toNat)
  case atStart => exact ⟨0, Nat.zero_le _, rfl, HM0.out⟩
  case round =>
    obtain ⟨k, hk, rfl, hm⟩ := hrel
    by_cases hlt : k < n
    · have hnx : Hid (uptoM (fun k => uptoM (fun i => uptoM (fun j => relaxM k i j) n) n) (k + 1) M0 = uptoM (fun i => uptoM (fun j => relaxM k i j) n) n (uptoM (fun k => uptoM (fun i => uptoM (fun j => relaxM k i j) n) n) k M0)) := rfl
      generalize uptoM (fun k => uptoM (fun i => uptoM (fun j => relaxM k i j) n) n) k M0 = M1 at *
      have HM := hide hm
      clear hm
      go_wp2
      go_loopw [17] (fun s wr => ∃ i : Nat, i ≤ n ∧ s = .int .i64 i ∧ WMem w wr mb (uptoM (fun i => uptoM (fun j => relaxM k i j) n) i M1)) (fun s _ => n - (intOf s).toNat)
      case atStart => exact ⟨0, Nat.zero_le _, rfl, HM.out⟩
      case round =>
        clear HM
        obtain ⟨i, hi, rfl, hm⟩ := hrel
        by_cases hlti : i < n
        · have hnx2 : Hid (uptoM (fun i => uptoM (fun j => relaxM k i j) n) (i + 1) M1 = uptoM (fun j => relaxM k i j) n (uptoM (fun i => uptoM (fun j => relaxM k i j) n) i M1)) := rfl
          generalize uptoM (fun i => uptoM (fun j => relaxM k i j) n) i M1 = M2 at *
          have HM := hide hm
          clear hm
          go_wp2
          go_loopw [21] (fun s wr => ∃ j : Nat, j ≤ n ∧ s = .int .i64 j ∧ WMem w wr mb (uptoM (fun j => relaxM k i j) j M2)) (fun s _ => n - (intOf s).toNat)
          case atStart => exact ⟨0, Nat.zero_le _, rfl, HM.out⟩
          case round =>
            clear HM
            obtain ⟨j, hj, rfl, hm⟩ := hrel
            by_cases hltj : j < n
            · have hnx3 : Hid (uptoM (fun j => relaxM k i j) (j + 1) M2 = relaxM k i j (uptoM (fun j => relaxM k i j) j M2)) := rfl
              generalize uptoM (fun j => relaxM k i j) j M2 = M at *
              by_cases hd : i ≠ j ∧ i ≠ k ∧ j ≠ k
              · obtain ⟨d1, d2, d3⟩ := hd
                have HRX : Hid (relaxM k i j M = fun a b => if a = i ∧ b = j then max (M i j) (min (M i k) (M k j)) else M a b) := relaxM_yes M ⟨d1, d2, d3⟩
                have e4 : ¬ ((i : Int) = (j : Int)) := by omega
                have e5 : ¬ ((i : Int) = (k : Int)) := by omega
                have e6 : ¬ ((j : Int) = (k : Int)) := by omega
                have g4 : ((i : Int) != (j : Int)) = true := by simp; omega
                have g5 : ((i : Int) != (k : Int)) = true := by simp; omega
                have g6 : ((j : Int) != (k : Int)) = true := by simp; omega
                have q1 : wr.cell? ⟨mb, i * 5 + j, none⟩ = some (.int .i64 (M i j)) := (blk_cell hm.mat _).trans (matC_at M (by omega) (by omega))
                have q2 : wr.cell? ⟨mb, i * 5 + k, none⟩ = some (.int .i64 (M i k)) := (blk_cell hm.mat _).trans (matC_at M (by omega) (by omega))
                have q3 : wr.cell? ⟨mb, k * 5 + j, none⟩ = some (.int .i64 (M k j)) := (blk_cell hm.mat _).trans (matC_at M (by omega) (by omega))
                have hf1 := blk_free hm.mat
                have hstep := hm.drew.step (x := i) (y := j) (by omega) (by omega) (max (M i j) (min (M i k) (M k j)))
                rw [← relaxM_yes M ⟨d1, d2, d3⟩, ← hnx3.out] at hstep
                have HST := hide hstep
                have HFAR : Hid (∀ z : Int, (wr.drew.setCell ⟨mb, i * 5 + j, none⟩ (.int .i64 z)).cell? ⟨mb, i * 5 + k, none⟩ = some (.int .i64 (M i k)) ∧ (wr.drew.setCell ⟨mb, i * 5 + j, none⟩ (.int .i64 z)).cell? ⟨mb, k * 5 + j, none⟩ = some (.int .i64 (M k j))) := fun z => by
                  have hs0 := hm.drew.step (x := i) (y := j) (by omega) (by omega) z
                  refine ⟨(blk_cell hs0.mat _).trans ?_, (blk_cell hs0.mat _).trans ?_⟩
                  · rw [matC_at _ (by omega) (by omega), if_neg (by omega)]
                  · rw [matC_at _ (by omega) (by omega), if_neg (by omega)]
                generalize M i j = x1 at *
                generalize M i k = x2 at *
                generalize M k j = x3 at *
                have i1 : (i : Int) < 5 := by omega
                have i2 : (j : Int) < 5 := by omega
                have i3 : (k : Int) < 5 := by omega
                clear hm hstep
                go_upto_region 12 with (fail)
                refine wp_region_noPanic ?_
                refine wp_region_held_drew (S := (fun w' => w'.cell? ⟨mb, i * 5 + k, none⟩ = some (.int .i64 x2) ∧ w'.cell? ⟨mb, k * 5 + j, none⟩ = some (.int .i64 x3))) (by kernel_rfl) ⟨q2, q3⟩ (fun hHeld => ?_)
                show wpAnyH _ _ _ _ _ _ (#[false, false, false, false, false, false, false, false, false, false, false, false, false, false, false, false, false, false, false, false, false, false] : Array Bool) _ _
                refine wpAnyH_take (i := 0) (v := .int .i64 i) rfl (by kernel_rfl) (by kernel_rfl) (by kernel_rfl) (fun _ _ _ h => h) (Or.inl ⟨by rfl, ?_⟩) hHeld ?_
                · (intro w' hSw; obtain ⟨y1, y2⟩ := hSw; go_simp)
                try simp only [Act.put, List.setIfInBounds_toArray, List.set_cons_zero, List.set_cons_succ]
                refine wpAnyH_take (i := 1) (v := .int .i64 j) rfl (by kernel_rfl) (by kernel_rfl) (by kernel_rfl) (fun _ _ _ h => h) (Or.inl ⟨by rfl, ?_⟩) hHeld ?_
                · (intro w' hSw; obtain ⟨y1, y2⟩ := hSw; go_simp)
                try simp only [Act.put, List.setIfInBounds_toArray, List.set_cons_zero, List.set_cons_succ]
                refine wpAnyH_take (i := 2) (v := .int .i64 i) rfl (by kernel_rfl) (by kernel_rfl) (by kernel_rfl) (fun _ _ _ h => h) (Or.inl ⟨by rfl, ?_⟩) hHeld ?_
                · (intro w' hSw; obtain ⟨y1, y2⟩ := hSw; go_simp)
                try simp only [Act.put, List.setIfInBounds_toArray, List.set_cons_zero, List.set_cons_succ]
                refine wpAnyH_take (i := 3) (v := .int .i64 j) rfl (by kernel_rfl) (by kernel_rfl) (by kernel_rfl) (fun _ _ _ h => h) (Or.inl ⟨by rfl, ?_⟩) hHeld ?_
                · (intro w' hSw; obtain ⟨y1, y2⟩ := hSw; go_simp)
                try simp only [Act.put, List.setIfInBounds_toArray, List.set_cons_zero, List.set_cons_succ]
                refine wpAnyH_take (i := 4) (v := .pointer (some ⟨mb, i * 5, none⟩)) rfl (by kernel_rfl) (by kernel_rfl) (by kernel_rfl) (fun _ _ _ h => h) (Or.inl ⟨by rfl, ?_⟩) hHeld ?_
                · (intro w' hSw; obtain ⟨y1, y2⟩ := hSw; go_simp)
                try simp only [Act.put, List.setIfInBounds_toArray, List.set_cons_zero, List.set_cons_succ]
                refine wpAnyH_take (i := 5) (v := .pointer (some ⟨mb, i * 5 + j, none⟩)) rfl (by kernel_rfl) (by kernel_rfl) (by kernel_rfl) (fun _ _ _ h => h) (Or.inl ⟨by rfl, ?_⟩) hHeld ?_
                · (intro w' hSw; obtain ⟨y1, y2⟩ := hSw; go_simp)
                try simp only [Act.put, List.setIfInBounds_toArray, List.set_cons_zero, List.set_cons_succ]
                refine wpAnyH_take (i := 7) (v := .int .i64 i) rfl (by kernel_rfl) (by kernel_rfl) (by kernel_rfl) (fun _ _ _ h => h) (Or.inl ⟨by rfl, ?_⟩) hHeld ?_
                · (intro w' hSw; obtain ⟨y1, y2⟩ := hSw; go_simp)
                try simp only [Act.put, List.setIfInBounds_toArray, List.set_cons_zero, List.set_cons_succ]
                refine wpAnyH_take (i := 8) (v := .int .i64 k) rfl (by kernel_rfl) (by kernel_rfl) (by kernel_rfl) (fun _ _ _ h => h) (Or.inl ⟨by rfl, ?_⟩) hHeld ?_
                · (intro w' hSw; obtain ⟨y1, y2⟩ := hSw; go_simp)
                try simp only [Act.put, List.setIfInBounds_toArray, List.set_cons_zero, List.set_cons_succ]
                refine wpAnyH_take (i := 9) (v := .pointer (some ⟨mb, i * 5, none⟩)) rfl (by kernel_rfl) (by kernel_rfl) (by kernel_rfl) (fun _ _ _ h => h) (Or.inl ⟨by rfl, ?_⟩) hHeld ?_
                · (intro w' hSw; obtain ⟨y1, y2⟩ := hSw; go_simp)
                try simp only [Act.put, List.setIfInBounds_toArray, List.set_cons_zero, List.set_cons_succ]
                refine wpAnyH_take (i := 10) (v := .pointer (some ⟨mb, i * 5 + k, none⟩)) rfl (by kernel_rfl) (by kernel_rfl) (by kernel_rfl) (fun _ _ _ h => h) (Or.inl ⟨by rfl, ?_⟩) hHeld ?_
                · (intro w' hSw; obtain ⟨y1, y2⟩ := hSw; go_simp)
                try simp only [Act.put, List.setIfInBounds_toArray, List.set_cons_zero, List.set_cons_succ]
                refine wpAnyH_take (i := 11) (v := .int .i64 x2) rfl (by kernel_rfl) (by kernel_rfl) (by kernel_rfl) (fun _ _ _ h => h) (Or.inl ⟨by rfl, ?_⟩) hHeld ?_
                · (intro w' hSw; obtain ⟨y1, y2⟩ := hSw; go_simp)
                try simp only [Act.put, List.setIfInBounds_toArray, List.set_cons_zero, List.set_cons_succ]
                refine wpAnyH_take (i := 12) (v := .int .i64 k) rfl (by kernel_rfl) (by kernel_rfl) (by kernel_rfl) (fun _ _ _ h => h) (Or.inl ⟨by rfl, ?_⟩) hHeld ?_
                · (intro w' hSw; obtain ⟨y1, y2⟩ := hSw; go_simp)
                try simp only [Act.put, List.setIfInBounds_toArray, List.set_cons_zero, List.set_cons_succ]
                refine wpAnyH_take (i := 13) (v := .int .i64 j) rfl (by kernel_rfl) (by kernel_rfl) (by kernel_rfl) (fun _ _ _ h => h) (Or.inl ⟨by rfl, ?_⟩) hHeld ?_
                · (intro w' hSw; obtain ⟨y1, y2⟩ := hSw; go_simp)
                try simp only [Act.put, List.setIfInBounds_toArray, List.set_cons_zero, List.set_cons_succ]
                refine wpAnyH_take (i := 14) (v := .pointer (some ⟨mb, k * 5, none⟩)) rfl (by kernel_rfl) (by kernel_rfl) (by kernel_rfl) (fun _ _ _ h => h) (Or.inl ⟨by rfl, ?_⟩) hHeld ?_
                · (intro w' hSw; obtain ⟨y1, y2⟩ := hSw; go_simp)
                try simp only [Act.put, List.setIfInBounds_toArray, List.set_cons_zero, List.set_cons_succ]
                refine wpAnyH_take (i := 15) (v := .pointer (some ⟨mb, k * 5 + j, none⟩)) rfl (by kernel_rfl) (by kernel_rfl) (by kernel_rfl) (fun _ _ _ h => h) (Or.inl ⟨by rfl, ?_⟩) hHeld ?_
                · (intro w' hSw; obtain ⟨y1, y2⟩ := hSw; go_simp)
                try simp only [Act.put, List.setIfInBounds_toArray, List.set_cons_zero, List.set_cons_succ]
                refine wpAnyH_take (i := 16) (v := .int .i64 x3) rfl (by kernel_rfl) (by kernel_rfl) (by kernel_rfl) (fun _ _ _ h => h) (Or.inl ⟨by rfl, ?_⟩) hHeld ?_
                · (intro w' hSw; obtain ⟨y1, y2⟩ := hSw; go_simp)
                try simp only [Act.put, List.setIfInBounds_toArray, List.set_cons_zero, List.set_cons_succ]
                refine wpAnyH_take (i := 17) (v := .int .i64 (min x2 x3)) rfl (by kernel_rfl) (by kernel_rfl) (by kernel_rfl) (fun _ _ _ h => h) (Or.inl ⟨by rfl, ?_⟩) hHeld ?_
                · (intro w' hSw; obtain ⟨y1, y2⟩ := hSw; go_simp; split <;> omega)
                try simp only [Act.put, List.setIfInBounds_toArray, List.set_cons_zero, List.set_cons_succ]
                refine wpAnyH_take (i := 19) (v := .pointer (some ⟨mb, i * 5, none⟩)) rfl (by kernel_rfl) (by kernel_rfl) (by kernel_rfl) (fun _ _ _ h => h) (Or.inl ⟨by rfl, ?_⟩) hHeld ?_
                · (intro w' hSw; obtain ⟨y1, y2⟩ := hSw; go_simp)
                try simp only [Act.put, List.setIfInBounds_toArray, List.set_cons_zero, List.set_cons_succ]
                clear hHeld
                refine wpAnyH_ready (rs := [6]) (by kernel_rfl) (by simp) ?_
                refine AllReadyH.cons rfl (fun K hK => ?_) AllReadyH.nil
                go_simp
                refine hK.out _ _ ⟨q2, q3⟩ (fun hHeld => ?_)
                clear hK K
                try simp only [Act.put, List.setIfInBounds_toArray, List.set_cons_zero, List.set_cons_succ]
                refine wpAnyH_take (i := 18) (v := .int .i64 (max x1 (min x2 x3))) rfl (by kernel_rfl) (by kernel_rfl) (by kernel_rfl) (fun _ _ _ h => h) (Or.inl ⟨by rfl, ?_⟩) hHeld ?_
                · (intro w' hSw; obtain ⟨y1, y2⟩ := hSw; go_simp; split <;> omega)
                try simp only [Act.put, List.setIfInBounds_toArray, List.set_cons_zero, List.set_cons_succ]
                refine wpAnyH_take (i := 20) (v := .pointer (some ⟨mb, i * 5 + j, none⟩)) rfl (by kernel_rfl) (by kernel_rfl) (by kernel_rfl) (fun _ _ _ h => h) (Or.inl ⟨by rfl, ?_⟩) hHeld ?_
                · (intro w' hSw; obtain ⟨y1, y2⟩ := hSw; go_simp)
                try simp only [Act.put, List.setIfInBounds_toArray, List.set_cons_zero, List.set_cons_succ]
                clear hHeld
                refine wpAnyH_ready (rs := [21]) (by kernel_rfl) (by simp) ?_
                refine AllReadyH.cons rfl (fun K hK => ?_) AllReadyH.nil
                go_simp
                refine hK.out _ _ (HFAR.out _) (fun hHeld => ?_)
                clear hK K
                try simp only [Act.put, List.setIfInBounds_toArray, List.set_cons_zero, List.set_cons_succ]
                refine wpAnyH_done (by kernel_rfl) ?_ _
                refine NoPanic.normal ?_
                go_wp2_with fail
                go_roundw
                case rel => exact ⟨j + 1, by omega, by go_num, HST.out⟩
                case measure => simp [intOf] <;> omega
              · have hsame := relaxM_no M hd
                rw [hsame] at hnx3
                have hm2 : WMem w wr mb (uptoM (fun j => relaxM k i j) (j + 1) M2) := by rw [hnx3.out]; exact hm
                have HM2 := hide hm2
                clear hm hm2 hsame hnx3
                have hor : ((i : Int) != (j : Int)) = false ∨ (((i : Int) != (j : Int)) = true ∧ ((i : Int) != (k : Int)) = false) ∨ (((i : Int) != (j : Int)) = true ∧ ((i : Int) != (k : Int)) = true ∧ ((j : Int) != (k : Int)) = false) := by
                  simp; omega
                clear hd
                rcases hor with h1 | ⟨h1, h2⟩ | ⟨h1, h2, h3⟩ <;>
                · go_wp2
                  go_roundw
                  case rel => exact ⟨j + 1, by omega, by go_num, HM2.out⟩
                  case measure => simp [intOf] <;> omega
            · obtain rfl : n = j := by omega
              have HM := hide hm
              clear hm
              go_wp2
              go_roundw
              case rel => exact ⟨i + 1, by omega, by go_num, by rw [hnx2.out]; exact HM.out⟩
              case measure => simp [intOf] <;> omega
        · obtain rfl : n = i := by omega
          have HM := hide hm
          clear hm
          go_wp2
          go_roundw
          case rel => exact ⟨k + 1, by omega, by go_num, by rw [hnx.out]; exact HM.out⟩
          case measure => simp [intOf] <;> omega
    · obtain rfl : n = k := by omega
      have hfin : widM n M0 = uptoM (fun k => uptoM (fun i => uptoM (fun j => relaxM k i j) n) n) n M0 := rfl
      generalize uptoM (fun k => uptoM (fun i => uptoM (fun j => relaxM k i j) n) n) n M0 = M at *
      have HM := hide hm
      have HFIN := hide hfin
      clear hm hfin
      go_wp2_with (first
        | (with_reducible show wpList _ _ _ (⟨some 61, _, _, _, _, _⟩ :: _) _ _; refine wpList_load_row rfl 80 _ rfl mb rfl _ (matC M) (0, 0) _ HM.out.mat HU.out rfl (HI9.out _) ?_)
        | (with_reducible show wpList _ _ _ (⟨none, _, _, _, _, _⟩ :: _) _ _; refine wpList_store_row rfl 80 _ _ rfl w.heap.size (matC M) rfl rfl _ _ HM.out.res (HI9.out _) (HSZ.out _ _) (matC_one M) ?_))
      (try simp only [Exit.inBlock, Exit.then])
      refine bodyPost_ret (results_cell_row rfl _ _ w.heap.size _ (matC M) _ _ rfl (setRow_blk HM.out.res) HU.out rfl (HI9.out _)) rfl ?_
      exact ⟨by rw [HFIN.out], below_setRow HM.out.bel (Nat.le_refl _) _⟩
end Go.Proofs.Ytejijddfepgnkaa
