/-
  vote: Path.
-/
import Derived.Test.YtejijddfepgnkaaGrow
import Derived.Test.YtejijddfepgnkaaWidths
import Derived.Test.YtejijddfepgnkaaValidVote
import Derived.BigQuiet
import Derived.Laws.EntriesVeiled
namespace Go.Proofs.Ytejijddfepgnkaa
open Go.RowKit
set_option linter.unusedVariables false
set_option linter.unusedSimpArgs false

theorem mat_index (M : Mat) (a : Nat) (ha : a < 5) : ∃ R, (∀ w, (Instr.index 80 (.agg (matC M)) (.int .i64 (a : Nat))).run Try.prog w = .ok R w) ∧ ∀ c : Nat, c < 5 → ∀ w, (Instr.index 78 R (.int .i64 (c : Nat))).run Try.prog w = .ok (.int .i64 (M a c)) w := by
  rcases (by omega : a = 0 ∨ a = 1 ∨ a = 2 ∨ a = 3 ∨ a = 4) with rfl | rfl | rfl | rfl | rfl
  · refine ⟨.agg #[.int .i64 (M 0 0), .int .i64 (M 0 1), .int .i64 (M 0 2), .int .i64 (M 0 3), .int .i64 (M 0 4)], fun w => by kernel_rfl, fun c hc w => ?_⟩
    rcases (by omega : c = 0 ∨ c = 1 ∨ c = 2 ∨ c = 3 ∨ c = 4) with rfl | rfl | rfl | rfl | rfl
    all_goals kernel_rfl
  · refine ⟨.agg #[.int .i64 (M 1 0), .int .i64 (M 1 1), .int .i64 (M 1 2), .int .i64 (M 1 3), .int .i64 (M 1 4)], fun w => by kernel_rfl, fun c hc w => ?_⟩
    rcases (by omega : c = 0 ∨ c = 1 ∨ c = 2 ∨ c = 3 ∨ c = 4) with rfl | rfl | rfl | rfl | rfl
    all_goals kernel_rfl
  · refine ⟨.agg #[.int .i64 (M 2 0), .int .i64 (M 2 1), .int .i64 (M 2 2), .int .i64 (M 2 3), .int .i64 (M 2 4)], fun w => by kernel_rfl, fun c hc w => ?_⟩
    rcases (by omega : c = 0 ∨ c = 1 ∨ c = 2 ∨ c = 3 ∨ c = 4) with rfl | rfl | rfl | rfl | rfl
    all_goals kernel_rfl
  · refine ⟨.agg #[.int .i64 (M 3 0), .int .i64 (M 3 1), .int .i64 (M 3 2), .int .i64 (M 3 3), .int .i64 (M 3 4)], fun w => by kernel_rfl, fun c hc w => ?_⟩
    rcases (by omega : c = 0 ∨ c = 1 ∨ c = 2 ∨ c = 3 ∨ c = 4) with rfl | rfl | rfl | rfl | rfl
    all_goals kernel_rfl
  · refine ⟨.agg #[.int .i64 (M 4 0), .int .i64 (M 4 1), .int .i64 (M 4 2), .int .i64 (M 4 3), .int .i64 (M 4 4)], fun w => by kernel_rfl, fun c hc w => ?_⟩
    rcases (by omega : c = 0 ∨ c = 1 ∨ c = 2 ∨ c = 3 ∨ c = 4) with rfl | rfl | rfl | rfl | rfl
    all_goals kernel_rfl

set_option maxRecDepth 100000 in
set_option maxHeartbeats 6400000 in
theorem Path_yes (A : Option Addr) (v n cc a c L : Nat) (q : List Nat) (W : List (List Nat)) (w : World) (hW : BOk W v n) (hA : RowsA w w.heap.size A (upp W)) (hv : votesB (upp W) = true) (ha : a < n) (hc : c < n) (hac : a ≠ c) (hL2 : 2 ≤ L) (hL60 : L ≤ 60)
    (hL : pthF (margM W) n c (widM n (margM W) a c) (L - 1) [a] = some q) (hno : ∀ k, 2 ≤ k → k < L → pthF (margM W) n c (widM n (margM W) a c) (k - 1) [a] = none) :
    Calls Try.prog 40 #[.slice A v cc, .int .i64 (a : Nat), .int .i64 (c : Nat)] w fun e w' => ∃ X cx, e = .returned (.tuple #[.slice (some X) q.length cx, .int .i64 0]) ∧ q.length ≤ cx ∧ IntsA w' w'.heap.size (some X) (up q) ∧ Below w.heap.size w w' := by
  have hn5 := hW.nle
  have h9 := hW.le
  obtain ⟨wp0, hwp0⟩ : ∃ wp0 : World, wp0 = w := ⟨_, rfl⟩
  subst hwp0
  obtain ⟨W2, hW2⟩ : ∃ W2 : World, W2 = (wp0.alloc (.cells #[.int .i64 (c : Nat)] 3)).alloc (.cells #[.slice A v cc] 67) := ⟨_, rfl⟩
  have hb2 : Below wp0.heap.size wp0 W2 := by subst hW2; exact ((Below.refl _ _).alloc (Nat.le_refl _) _).alloc (by simp) _
  have hs2 : W2.heap.size = wp0.heap.size + 2 := by subst hW2; simp
  have hx0 : W2.cell? ⟨wp0.heap.size, 0, none⟩ = some (.int .i64 (c : Nat)) := by subst hW2; exact blk_cell (alloc_old _ _ _ (by simp) (alloc_new _ _ _ rfl)) 0
  have hx1 : W2.cell? ⟨wp0.heap.size + 1, 0, none⟩ = some (.slice A v cc) := by subst hW2; exact blk_cell (alloc_new _ _ _ (by simp)) 0
  have hA2 : RowsA W2 W2.heap.size A (upp W) := hA.next hb2
  have lx0 : wp0.heap.size < W2.heap.size := by omega
  have lx1 : wp0.heap.size + 1 < W2.heap.size := by omega
  have HV := hide (fun w' (hw' : Below W2.heap.size W2 w') => by
    have := valid_any A v cc w'.heap.size (upp W) w' (by rw [upp_length, hW.len]) (by omega) (fun l hl => by have := (ordB_iff.1 ((votesB_iff.1 hv).2.2 l hl)).1; have := (votesB_iff.1 hv).2.1; omega) (hA2.next hw')
    rw [hv] at this
    exact this)
  have HNA := hide (fun w' (hw' : Below W2.heap.size W2 w') => names_any A v n cc w'.heap.size W w' hW (hA2.next hw'))
  have HMG0 := hide (fun w' (hw' : Below W2.heap.size W2 w') => margins_any A v n cc W w' hW (hA2.next hw'))
  have HWD0 := hide (fun w' (hw' : Below W2.heap.size W2 w') => widths_any A v n cc W w' hW (hA2.next hw'))
  have HGR := hide (fun (M : Mat) (wd : Int) (pm pw pg : Nat) (X : Option Addr) (cx long : Nat) (w' : World) (h1 : 1 + (long - 1) = long) (h2 : long ≤ 60) (h3 : 1 ≤ cx) (h4 : IntsA w' w'.heap.size X (up [a])) (h5 : Below W2.heap.size W2 w') (h6 : PMem w' wp0.heap.size (wp0.heap.size + 1) pm pw pg c wd A v cc M) =>
    pgrow_any M n c wd A v cc W wp0.heap.size (wp0.heap.size + 1) pm pw pg hW (long - 1) [a] X 1 cx long w' rfl h1 (Nat.le_refl _) h2 (fun y hy => by rw [List.mem_singleton] at hy; omega) h3 h4 (hA2.next h5) h6)
  obtain ⟨RR, hix1, hix⟩ := mat_index (widM n (margM W)) a (by omega)
  have hix2 := hix c (by omega)
  obtain ⟨wd, hwd⟩ : ∃ wd, widM n (margM W) a c = wd := ⟨_, rfl⟩
  rw [hwd] at hix2 hL hno
  have HL := hide hL
  have HNO := hide hno
  have HB2 := hide hb2
  have HW2 := hide hW2
  generalize widM n (margM W) = WM at *
  generalize margM W = M at *
  have HI9 : Hid (∀ M : Mat, (Try.prog.info? 80).map (·.size) = some (matC M).size) := fun M => by rw [matC_size]; kernel_rfl
  have e1 : decide ((n : Int) ≤ (a : Int)) = false := decide_eq_false (by omega)
  have e2 : decide ((n : Int) ≤ (c : Int)) = false := decide_eq_false (by omega)
  have e3 : ¬ (a : Int) = (c : Int) := by omega
  have e4 : ((a : Int) == (c : Int)) = false := by simp [e3]
  clear hW2 hb2 hA hA2 hv hW hL hno hix hwd
  go_enter Try.func40, Try.ntmps40
  go_wp2_with fail
  rw [← HW2.out]
  refine wp_region_below (by kernel_rfl) (by kernel_rfl) ?_
  refine wpQuiet_val' (.slice A v cc) (by rfl) (fun w' hw' => by have e0 := (hw'.cell (p := ⟨wp0.heap.size + 1, 0, none⟩) lx1).trans hx1; go_simp) ?_
  simp only [put_lit, List.set_cons_succ, List.set_cons_zero]
  refine wpQuiet_call' 62 #[.slice A v cc] (.bool true) (by rfl) (fun w' hw' => by go_simp) (fun w' hw' => (HV.out w' hw').mono fun e w9 h9 => ⟨h9.1, hw'.trans (h9.2.mono hw'.size)⟩) ?_
  simp only [put_lit, List.set_cons_succ, List.set_cons_zero]
  refine wpQuiet_val' (.bool false) (by rfl) (fun w' hw' => by go_simp) ?_
  simp only [put_lit, List.set_cons_succ, List.set_cons_zero]
  refine wpQuiet_val' (.bool false) (by rfl) (fun w' hw' => by go_simp) ?_
  simp only [put_lit, List.set_cons_succ, List.set_cons_zero]
  refine wpQuiet_val' (.int .i64 (a : Nat)) (by rfl) (fun w' hw' => by go_simp) ?_
  simp only [put_lit, List.set_cons_succ, List.set_cons_zero]
  refine wpQuiet_val' (.bool false) (by rfl) (fun w' hw' => by go_simp) ?_
  simp only [put_lit, List.set_cons_succ, List.set_cons_zero]
  refine wpQuiet_val' (.bool false) (by rfl) (fun w' hw' => by go_simp) ?_
  simp only [put_lit, List.set_cons_succ, List.set_cons_zero]
  refine wpQuiet_val' (.bool false) (by rfl) (fun w' hw' => by go_simp) ?_
  simp only [put_lit, List.set_cons_succ, List.set_cons_zero]
  refine wpQuiet_val' (.int .i64 (a : Nat)) (by rfl) (fun w' hw' => by go_simp) ?_
  simp only [put_lit, List.set_cons_succ, List.set_cons_zero]
  refine wpQuiet_val' (.slice A v cc) (by rfl) (fun w' hw' => by have e0 := (hw'.cell (p := ⟨wp0.heap.size + 1, 0, none⟩) lx1).trans hx1; go_simp) ?_
  simp only [put_lit, List.set_cons_succ, List.set_cons_zero]
  refine wpQuiet_call' 60 #[.slice A v cc] (.int .i64 (n : Nat)) (by rfl) (fun w' hw' => by go_simp) (fun w' hw' => (HNA.out w' hw').mono fun e w9 h9 => ⟨h9.1, by rw [← h9.2]; exact hw'⟩) ?_
  simp only [put_lit, List.set_cons_succ, List.set_cons_zero]
  refine wpQuiet_val' (.bool false) (by rfl) (fun w' hw' => by go_simp) ?_
  simp only [put_lit, List.set_cons_succ, List.set_cons_zero]
  refine wpQuiet_val' (.bool false) (by rfl) (fun w' hw' => by go_simp) ?_
  simp only [put_lit, List.set_cons_succ, List.set_cons_zero]
  refine wpQuiet_val' (.bool false) (by rfl) (fun w' hw' => by go_simp) ?_
  simp only [put_lit, List.set_cons_succ, List.set_cons_zero]
  refine wpQuiet_val' (.int .i64 (c : Nat)) (by rfl) (fun w' hw' => by have e0 := (hw'.cell (p := ⟨wp0.heap.size, 0, none⟩) lx0).trans hx0; go_simp) ?_
  simp only [put_lit, List.set_cons_succ, List.set_cons_zero]
  refine wpQuiet_val' (.bool false) (by rfl) (fun w' hw' => by go_simp) ?_
  simp only [put_lit, List.set_cons_succ, List.set_cons_zero]
  refine wpQuiet_val' (.bool false) (by rfl) (fun w' hw' => by go_simp) ?_
  simp only [put_lit, List.set_cons_succ, List.set_cons_zero]
  refine wpQuiet_val' (.bool false) (by rfl) (fun w' hw' => by go_simp) ?_
  simp only [put_lit, List.set_cons_succ, List.set_cons_zero]
  refine wpQuiet_val' (.int .i64 (c : Nat)) (by rfl) (fun w' hw' => by have e0 := (hw'.cell (p := ⟨wp0.heap.size, 0, none⟩) lx0).trans hx0; go_simp) ?_
  simp only [put_lit, List.set_cons_succ, List.set_cons_zero]
  refine wpQuiet_val' (.slice A v cc) (by rfl) (fun w' hw' => by have e0 := (hw'.cell (p := ⟨wp0.heap.size + 1, 0, none⟩) lx1).trans hx1; go_simp) ?_
  simp only [put_lit, List.set_cons_succ, List.set_cons_zero]
  refine wpQuiet_call' 60 #[.slice A v cc] (.int .i64 (n : Nat)) (by rfl) (fun w' hw' => by go_simp) (fun w' hw' => (HNA.out w' hw').mono fun e w9 h9 => ⟨h9.1, by rw [← h9.2]; exact hw'⟩) ?_
  simp only [put_lit, List.set_cons_succ, List.set_cons_zero]
  refine wpQuiet_val' (.bool false) (by rfl) (fun w' hw' => by go_simp) ?_
  simp only [put_lit, List.set_cons_succ, List.set_cons_zero]
  refine wpQuiet_val' (.bool false) (by rfl) (fun w' hw' => by go_simp) ?_
  simp only [put_lit, List.set_cons_succ, List.set_cons_zero]
  refine wpQuiet_val' (.bool false) (by rfl) (fun w' hw' => by go_simp) ?_
  simp only [put_lit, List.set_cons_succ, List.set_cons_zero]
  refine wpQuiet_val' (.int .i64 (a : Nat)) (by rfl) (fun w' hw' => by go_simp) ?_
  simp only [put_lit, List.set_cons_succ, List.set_cons_zero]
  refine wpQuiet_val' (.int .i64 (c : Nat)) (by rfl) (fun w' hw' => by have e0 := (hw'.cell (p := ⟨wp0.heap.size, 0, none⟩) lx0).trans hx0; go_simp) ?_
  simp only [put_lit, List.set_cons_succ, List.set_cons_zero]
  refine wpQuiet_val' (.bool false) (by rfl) (fun w' hw' => by go_simp) ?_
  simp only [put_lit, List.set_cons_succ, List.set_cons_zero]
  refine wpQuiet_val' (.bool false) (by rfl) (fun w' hw' => by go_simp) ?_
  simp only [put_lit, List.set_cons_succ, List.set_cons_zero]
  refine wpQuiet_nil ?_
  intro wq hbq
  have hsq := hbq.size
  have hy0 := (hbq.cell (p := ⟨wp0.heap.size, 0, none⟩) lx0).trans hx0
  have hy1 := (hbq.cell (p := ⟨wp0.heap.size + 1, 0, none⟩) lx1).trans hx1
  have HBQ := hide hbq
  have HMG : Hid (∀ w', Below wq.heap.size wq w' → Calls Try.prog 69 #[.slice A v cc] w' fun e w'' => e = .returned (.agg (matC M)) ∧ Below w'.heap.size w' w'') := fun w' h => HMG0.out w' (HBQ.out.trans (h.mono hsq))
  have HWD : Hid (∀ w', Below wq.heap.size wq w' → Calls Try.prog 73 #[.slice A v cc] w' fun e w'' => e = .returned (.agg (matC WM)) ∧ Below w'.heap.size w' w'') := fun w' h => HWD0.out w' (HBQ.out.trans (h.mono hsq))
  have HSS : Hid (∀ w', Below wq.heap.size wq w' → w'.cell? ⟨wp0.heap.size + 1, 0, none⟩ = some (.slice A v cc) ∧ w'.cell? ⟨wp0.heap.size, 0, none⟩ = some (.int .i64 (c : Nat)) ∧ Below wq.heap.size wq w') := fun w' h => ⟨(h.cell (p := ⟨wp0.heap.size + 1, 0, none⟩) (by show wp0.heap.size + 1 < _; omega)).trans hy1, (h.cell (p := ⟨wp0.heap.size, 0, none⟩) (by show wp0.heap.size < _; omega)).trans hy0, h⟩
  clear hbq hx0 hx1 hy0 hy1 HV HNA HMG0 HWD0
  go_wp2_with fail
  go_cut [9, 10] (fun u9 u10 w1 => ∃ pm pw, u9 = .pointer (some ⟨pm, 0, none⟩) ∧ u10 = .pointer (some ⟨pw, 0, none⟩) ∧ w1.heap[pm]? = some (.cells (matC M) 80 (0, 0)) ∧ w1.cell? ⟨pw, 0, none⟩ = some (.int .i64 wd) ∧ Below wq.heap.size wq w1)
  case first =>
    refine wp_region_noPanic ?_
    refine wp_region_held_drew (S := (fun w' => w'.cell? ⟨wp0.heap.size + 1, 0, none⟩ = some (.slice A v cc) ∧ w'.cell? ⟨wp0.heap.size, 0, none⟩ = some (.int .i64 (c : Nat)) ∧ Below wq.heap.size wq w')) (by kernel_rfl) (HSS.out _ (Below.refl _ wq).drew) (fun hHeld => ?_)
    show wpAnyH _ _ _ _ _ _ (#[false, false, false, false, false, false, false, false, false, false, false, false] : Array Bool) _ _
    refine wpAnyH_take (i := 0) (v := .slice A v cc) rfl (by kernel_rfl) (by kernel_rfl) (by kernel_rfl) (fun _ _ _ h => h) (Or.inl ⟨by rfl, ?_⟩) hHeld ?_
    · (intro w' hSw; obtain ⟨y1, y2, y3⟩ := hSw; go_simp)
    try simp only [Act.put, List.setIfInBounds_toArray, List.set_cons_zero, List.set_cons_succ]
    refine wpAnyH_take (i := 2) (v := .slice A v cc) rfl (by kernel_rfl) (by kernel_rfl) (by kernel_rfl) (fun _ _ _ h => h) (Or.inl ⟨by rfl, ?_⟩) hHeld ?_
    · (intro w' hSw; obtain ⟨y1, y2, y3⟩ := hSw; go_simp)
    try simp only [Act.put, List.setIfInBounds_toArray, List.set_cons_zero, List.set_cons_succ]
    refine wpAnyH_take (i := 4) (v := .int .i64 (a : Nat)) rfl (by kernel_rfl) (by kernel_rfl) (by kernel_rfl) (fun _ _ _ h => h) (Or.inl ⟨by rfl, ?_⟩) hHeld ?_
    · (intro w' hSw; obtain ⟨y1, y2, y3⟩ := hSw; go_simp)
    try simp only [Act.put, List.setIfInBounds_toArray, List.set_cons_zero, List.set_cons_succ]
    refine wpAnyH_take (i := 6) (v := .int .i64 (c : Nat)) rfl (by kernel_rfl) (by kernel_rfl) (by kernel_rfl) (fun _ _ _ h => h) (Or.inl ⟨by rfl, ?_⟩) hHeld ?_
    · (intro w' hSw; obtain ⟨y1, y2, y3⟩ := hSw; go_simp)
    try simp only [Act.put, List.setIfInBounds_toArray, List.set_cons_zero, List.set_cons_succ]
    have hB : Below wq.heap.size wq wq.drew := (Below.refl _ wq).drew
    refine wpAnyH_ready (rs := [1, 8, 9]) (by kernel_rfl) (by simp) ?_
    refine AllReadyH.cons rfl (fun K hK => ?_) (AllReadyH.cons rfl (fun K hK => ?_) (AllReadyH.cons rfl (fun K hK => ?_) AllReadyH.nil))
    · clear hHeld
      go_simp
      refine (HMG.out _ hB).mono ?_
      rintro e v1 ⟨rfl, hbn⟩
      try go_wp2_with fail
      replace hB := hB.trans (hbn.mono hB.size)
      clear hbn
      refine hK.out _ _ (HSS.out _ hB) (fun hHeld => ?_)
      clear hK K
      try simp only [List.getElem_toArray, List.getElem_cons_succ, List.getElem_cons_zero, put_lit, List.set_cons_zero, List.set_cons_succ]
      refine wpAnyH_ready (rs := [3, 8, 9]) (by kernel_rfl) (by simp) ?_
      refine AllReadyH.cons rfl (fun K hK => ?_) (AllReadyH.cons rfl (fun K hK => ?_) (AllReadyH.cons rfl (fun K hK => ?_) AllReadyH.nil))
      · clear hHeld
        go_simp
        refine (HWD.out _ hB).mono ?_
        rintro e v2 ⟨rfl, hbn⟩
        try go_wp2_with fail
        replace hB := hB.trans (hbn.mono hB.size)
        clear hbn
        refine hK.out _ _ (HSS.out _ hB) (fun hHeld => ?_)
        clear hK K
        try simp only [List.getElem_toArray, List.getElem_cons_succ, List.getElem_cons_zero, put_lit, List.set_cons_zero, List.set_cons_succ]
        refine wpAnyH_take (i := 5) (v := RR) rfl (by kernel_rfl) (by kernel_rfl) (by kernel_rfl) (fun _ _ _ h => h) (Or.inl ⟨by rfl, ?_⟩) hHeld ?_
        · (intro w' hSw; obtain ⟨y1, y2, y3⟩ := hSw; go_simp)
        try simp only [List.getElem_toArray, List.getElem_cons_succ, List.getElem_cons_zero, put_lit, List.set_cons_zero, List.set_cons_succ]
        refine wpAnyH_take (i := 7) (v := .int .i64 wd) rfl (by kernel_rfl) (by kernel_rfl) (by kernel_rfl) (fun _ _ _ h => h) (Or.inl ⟨by rfl, ?_⟩) hHeld ?_
        · (intro w' hSw; obtain ⟨y1, y2, y3⟩ := hSw; go_simp)
        try simp only [List.getElem_toArray, List.getElem_cons_succ, List.getElem_cons_zero, put_lit, List.set_cons_zero, List.set_cons_succ]
        refine wpAnyH_ready (rs := [8, 9]) (by kernel_rfl) (by simp) ?_
        refine AllReadyH.cons rfl (fun K hK => ?_) (AllReadyH.cons rfl (fun K hK => ?_) AllReadyH.nil)
        · clear hHeld
          have g80 : wq.heap.size ≤ v2.heap.size := by first | exact hB.size | (have := hB.size; simp at this; omega)
          go_simp
          have hbn : Below (v2).heap.size (v2) ((v2).alloc (.cells #[.int .i64 0, .int .i64 0, .int .i64 0, .int .i64 0, .int .i64 0, .int .i64 0, .int .i64 0, .int .i64 0, .int .i64 0, .int .i64 0, .int .i64 0, .int .i64 0, .int .i64 0, .int .i64 0, .int .i64 0, .int .i64 0, .int .i64 0, .int .i64 0, .int .i64 0, .int .i64 0, .int .i64 0, .int .i64 0, .int .i64 0, .int .i64 0, .int .i64 0] 80)) := (Below.refl _ _).alloc (Nat.le_refl _) _
          replace hB := hB.trans (hbn.mono hB.size)
          clear hbn
          have h80 : (((v2).alloc (.cells #[.int .i64 0, .int .i64 0, .int .i64 0, .int .i64 0, .int .i64 0, .int .i64 0, .int .i64 0, .int .i64 0, .int .i64 0, .int .i64 0, .int .i64 0, .int .i64 0, .int .i64 0, .int .i64 0, .int .i64 0, .int .i64 0, .int .i64 0, .int .i64 0, .int .i64 0, .int .i64 0, .int .i64 0, .int .i64 0, .int .i64 0, .int .i64 0, .int .i64 0] 80))).heap[v2.heap.size]? = some (.cells #[.int .i64 0, .int .i64 0, .int .i64 0, .int .i64 0, .int .i64 0, .int .i64 0, .int .i64 0, .int .i64 0, .int .i64 0, .int .i64 0, .int .i64 0, .int .i64 0, .int .i64 0, .int .i64 0, .int .i64 0, .int .i64 0, .int .i64 0, .int .i64 0, .int .i64 0, .int .i64 0, .int .i64 0, .int .i64 0, .int .i64 0, .int .i64 0, .int .i64 0] 80 (0, 0)) := alloc_new _ _ _ (by simp)
          refine hK.out _ _ (HSS.out _ hB) (fun hHeld => ?_)
          clear hK K
          try simp only [List.getElem_toArray, List.getElem_cons_succ, List.getElem_cons_zero, put_lit, List.set_cons_zero, List.set_cons_succ]
          refine wpAnyH_ready (rs := [9]) (by kernel_rfl) (by simp) ?_
          refine AllReadyH.cons rfl (fun K hK => ?_) AllReadyH.nil
          · clear hHeld
            have g3 : wq.heap.size ≤ v2.heap.size + 1 := by first | exact hB.size | (have := hB.size; simp at this; omega)
            have gne : v2.heap.size < v2.heap.size + 1 := by first | exact lt_of_block h80 | (have := lt_of_block h80; simp at this; omega)
            go_simp
            have hbn : Below (((v2).alloc (.cells #[.int .i64 0, .int .i64 0, .int .i64 0, .int .i64 0, .int .i64 0, .int .i64 0, .int .i64 0, .int .i64 0, .int .i64 0, .int .i64 0, .int .i64 0, .int .i64 0, .int .i64 0, .int .i64 0, .int .i64 0, .int .i64 0, .int .i64 0, .int .i64 0, .int .i64 0, .int .i64 0, .int .i64 0, .int .i64 0, .int .i64 0, .int .i64 0, .int .i64 0] 80))).heap.size (((v2).alloc (.cells #[.int .i64 0, .int .i64 0, .int .i64 0, .int .i64 0, .int .i64 0, .int .i64 0, .int .i64 0, .int .i64 0, .int .i64 0, .int .i64 0, .int .i64 0, .int .i64 0, .int .i64 0, .int .i64 0, .int .i64 0, .int .i64 0, .int .i64 0, .int .i64 0, .int .i64 0, .int .i64 0, .int .i64 0, .int .i64 0, .int .i64 0, .int .i64 0, .int .i64 0] 80))) ((((v2).alloc (.cells #[.int .i64 0, .int .i64 0, .int .i64 0, .int .i64 0, .int .i64 0, .int .i64 0, .int .i64 0, .int .i64 0, .int .i64 0, .int .i64 0, .int .i64 0, .int .i64 0, .int .i64 0, .int .i64 0, .int .i64 0, .int .i64 0, .int .i64 0, .int .i64 0, .int .i64 0, .int .i64 0, .int .i64 0, .int .i64 0, .int .i64 0, .int .i64 0, .int .i64 0] 80))).alloc (.cells #[.int .i64 0] 3)) := (Below.refl _ _).alloc (Nat.le_refl _) _
            replace h80 := (hbn.block _ (lt_of_block h80)).trans h80
            replace hB := hB.trans (hbn.mono hB.size)
            clear hbn
            have h3 : (((((v2).alloc (.cells #[.int .i64 0, .int .i64 0, .int .i64 0, .int .i64 0, .int .i64 0, .int .i64 0, .int .i64 0, .int .i64 0, .int .i64 0, .int .i64 0, .int .i64 0, .int .i64 0, .int .i64 0, .int .i64 0, .int .i64 0, .int .i64 0, .int .i64 0, .int .i64 0, .int .i64 0, .int .i64 0, .int .i64 0, .int .i64 0, .int .i64 0, .int .i64 0, .int .i64 0] 80))).alloc (.cells #[.int .i64 0] 3))).heap[v2.heap.size + 1]? = some (.cells #[.int .i64 0] 3 (0, 0)) := alloc_new _ _ _ (by simp)
            refine hK.out _ _ (HSS.out _ hB) (fun hHeld => ?_)
            clear hK K
            try simp only [List.getElem_toArray, List.getElem_cons_succ, List.getElem_cons_zero, put_lit, List.set_cons_zero, List.set_cons_succ]
            refine wpAnyH_ready (rs := [10]) (by kernel_rfl) (by simp) ?_
            refine AllReadyH.cons rfl (fun K hK => ?_) AllReadyH.nil
            clear hHeld
            refine wp_store_row 80 _ _ rfl (v2.heap.size) (matC M) (by simp [Act.eval]) (by simp [Act.eval]) 80 _ h80 (HI9.out _) (by rw [matC_size]; rfl) (matC_one M) ?_
            have hBs := below_setRow hB g80 (matC M)
            refine hK.out _ _ (HSS.out _ hBs) (fun hHeld => ?_)
            clear hK K
            try simp only [List.getElem_toArray, List.getElem_cons_succ, List.getElem_cons_zero, put_lit, List.set_cons_zero, List.set_cons_succ]
            have k80 := setRow_blk (c' := matC M) h80
            have k3 := (setRow_far (c := matC M) (b := v2.heap.size + 1) (g := v2.heap.size) (by omega)).trans h3
            refine wpAnyH_ready (rs := [11]) (by kernel_rfl) (by simp) ?_
            refine AllReadyH.cons rfl (fun K hK => ?_) AllReadyH.nil
            clear hHeld
            have q3 := blk_cell k3 0
            have f3 := blk_free k3 0
            simp only [List.getElem?_toArray, List.getElem?_cons_zero] at q3
            go_simp
            have hBt := hBs.setCell (p := ⟨v2.heap.size + 1, 0, none⟩) g3 (.int .i64 wd)
            refine hK.out _ _ (HSS.out _ hBt) (fun hHeld => ?_)
            clear hK K
            try simp only [List.getElem_toArray, List.getElem_cons_succ, List.getElem_cons_zero, put_lit, List.set_cons_zero, List.set_cons_succ]
            refine wpAnyH_done (by kernel_rfl) ?_ _
            refine NoPanic.normal ?_
            go_wp2_with fail
            go_meet
            exact ⟨v2.heap.size, v2.heap.size + 1, rfl, rfl, (blk_far _ (by omega)).trans k80, blk_cell (blk_set k3 0 _) 0, hBt⟩
        · clear hHeld
          have g3 : wq.heap.size ≤ v2.heap.size := by first | exact hB.size | (have := hB.size; simp at this; omega)
          go_simp
          have hbn : Below (v2).heap.size (v2) ((v2).alloc (.cells #[.int .i64 0] 3)) := (Below.refl _ _).alloc (Nat.le_refl _) _
          replace hB := hB.trans (hbn.mono hB.size)
          clear hbn
          have h3 : (((v2).alloc (.cells #[.int .i64 0] 3))).heap[v2.heap.size]? = some (.cells #[.int .i64 0] 3 (0, 0)) := alloc_new _ _ _ (by simp)
          refine hK.out _ _ (HSS.out _ hB) (fun hHeld => ?_)
          clear hK K
          try simp only [List.getElem_toArray, List.getElem_cons_succ, List.getElem_cons_zero, put_lit, List.set_cons_zero, List.set_cons_succ]
          refine wpAnyH_ready (rs := [8]) (by kernel_rfl) (by simp) ?_
          refine AllReadyH.cons rfl (fun K hK => ?_) AllReadyH.nil
          · clear hHeld
            have g80 : wq.heap.size ≤ v2.heap.size + 1 := by first | exact hB.size | (have := hB.size; simp at this; omega)
            have gne : v2.heap.size < v2.heap.size + 1 := by first | exact lt_of_block h3 | (have := lt_of_block h3; simp at this; omega)
            go_simp
            have hbn : Below (((v2).alloc (.cells #[.int .i64 0] 3))).heap.size (((v2).alloc (.cells #[.int .i64 0] 3))) ((((v2).alloc (.cells #[.int .i64 0] 3))).alloc (.cells #[.int .i64 0, .int .i64 0, .int .i64 0, .int .i64 0, .int .i64 0, .int .i64 0, .int .i64 0, .int .i64 0, .int .i64 0, .int .i64 0, .int .i64 0, .int .i64 0, .int .i64 0, .int .i64 0, .int .i64 0, .int .i64 0, .int .i64 0, .int .i64 0, .int .i64 0, .int .i64 0, .int .i64 0, .int .i64 0, .int .i64 0, .int .i64 0, .int .i64 0] 80)) := (Below.refl _ _).alloc (Nat.le_refl _) _
            replace h3 := (hbn.block _ (lt_of_block h3)).trans h3
            replace hB := hB.trans (hbn.mono hB.size)
            clear hbn
            have h80 : (((((v2).alloc (.cells #[.int .i64 0] 3))).alloc (.cells #[.int .i64 0, .int .i64 0, .int .i64 0, .int .i64 0, .int .i64 0, .int .i64 0, .int .i64 0, .int .i64 0, .int .i64 0, .int .i64 0, .int .i64 0, .int .i64 0, .int .i64 0, .int .i64 0, .int .i64 0, .int .i64 0, .int .i64 0, .int .i64 0, .int .i64 0, .int .i64 0, .int .i64 0, .int .i64 0, .int .i64 0, .int .i64 0, .int .i64 0] 80))).heap[v2.heap.size + 1]? = some (.cells #[.int .i64 0, .int .i64 0, .int .i64 0, .int .i64 0, .int .i64 0, .int .i64 0, .int .i64 0, .int .i64 0, .int .i64 0, .int .i64 0, .int .i64 0, .int .i64 0, .int .i64 0, .int .i64 0, .int .i64 0, .int .i64 0, .int .i64 0, .int .i64 0, .int .i64 0, .int .i64 0, .int .i64 0, .int .i64 0, .int .i64 0, .int .i64 0, .int .i64 0] 80 (0, 0)) := alloc_new _ _ _ (by simp)
            refine hK.out _ _ (HSS.out _ hB) (fun hHeld => ?_)
            clear hK K
            try simp only [List.getElem_toArray, List.getElem_cons_succ, List.getElem_cons_zero, put_lit, List.set_cons_zero, List.set_cons_succ]
            refine wpAnyH_ready (rs := [10]) (by kernel_rfl) (by simp) ?_
            refine AllReadyH.cons rfl (fun K hK => ?_) AllReadyH.nil
            clear hHeld
            refine wp_store_row 80 _ _ rfl (v2.heap.size + 1) (matC M) (by simp [Act.eval]) (by simp [Act.eval]) 80 _ h80 (HI9.out _) (by rw [matC_size]; rfl) (matC_one M) ?_
            have hBs := below_setRow hB g80 (matC M)
            refine hK.out _ _ (HSS.out _ hBs) (fun hHeld => ?_)
            clear hK K
            try simp only [List.getElem_toArray, List.getElem_cons_succ, List.getElem_cons_zero, put_lit, List.set_cons_zero, List.set_cons_succ]
            have k80 := setRow_blk (c' := matC M) h80
            have k3 := (setRow_far (c := matC M) (b := v2.heap.size) (g := v2.heap.size + 1) (by omega)).trans h3
            refine wpAnyH_ready (rs := [11]) (by kernel_rfl) (by simp) ?_
            refine AllReadyH.cons rfl (fun K hK => ?_) AllReadyH.nil
            clear hHeld
            have q3 := blk_cell k3 0
            have f3 := blk_free k3 0
            simp only [List.getElem?_toArray, List.getElem?_cons_zero] at q3
            go_simp
            have hBt := hBs.setCell (p := ⟨v2.heap.size, 0, none⟩) g3 (.int .i64 wd)
            refine hK.out _ _ (HSS.out _ hBt) (fun hHeld => ?_)
            clear hK K
            try simp only [List.getElem_toArray, List.getElem_cons_succ, List.getElem_cons_zero, put_lit, List.set_cons_zero, List.set_cons_succ]
            refine wpAnyH_done (by kernel_rfl) ?_ _
            refine NoPanic.normal ?_
            go_wp2_with fail
            go_meet
            exact ⟨v2.heap.size + 1, v2.heap.size, rfl, rfl, (blk_far _ (by omega)).trans k80, blk_cell (blk_set k3 0 _) 0, hBt⟩
      · clear hHeld
        have g80 : wq.heap.size ≤ v1.heap.size := by first | exact hB.size | (have := hB.size; simp at this; omega)
        go_simp
        have hbn : Below (v1).heap.size (v1) ((v1).alloc (.cells #[.int .i64 0, .int .i64 0, .int .i64 0, .int .i64 0, .int .i64 0, .int .i64 0, .int .i64 0, .int .i64 0, .int .i64 0, .int .i64 0, .int .i64 0, .int .i64 0, .int .i64 0, .int .i64 0, .int .i64 0, .int .i64 0, .int .i64 0, .int .i64 0, .int .i64 0, .int .i64 0, .int .i64 0, .int .i64 0, .int .i64 0, .int .i64 0, .int .i64 0] 80)) := (Below.refl _ _).alloc (Nat.le_refl _) _
        replace hB := hB.trans (hbn.mono hB.size)
        clear hbn
        have h80 : (((v1).alloc (.cells #[.int .i64 0, .int .i64 0, .int .i64 0, .int .i64 0, .int .i64 0, .int .i64 0, .int .i64 0, .int .i64 0, .int .i64 0, .int .i64 0, .int .i64 0, .int .i64 0, .int .i64 0, .int .i64 0, .int .i64 0, .int .i64 0, .int .i64 0, .int .i64 0, .int .i64 0, .int .i64 0, .int .i64 0, .int .i64 0, .int .i64 0, .int .i64 0, .int .i64 0] 80))).heap[v1.heap.size]? = some (.cells #[.int .i64 0, .int .i64 0, .int .i64 0, .int .i64 0, .int .i64 0, .int .i64 0, .int .i64 0, .int .i64 0, .int .i64 0, .int .i64 0, .int .i64 0, .int .i64 0, .int .i64 0, .int .i64 0, .int .i64 0, .int .i64 0, .int .i64 0, .int .i64 0, .int .i64 0, .int .i64 0, .int .i64 0, .int .i64 0, .int .i64 0, .int .i64 0, .int .i64 0] 80 (0, 0)) := alloc_new _ _ _ (by simp)
        refine hK.out _ _ (HSS.out _ hB) (fun hHeld => ?_)
        clear hK K
        try simp only [List.getElem_toArray, List.getElem_cons_succ, List.getElem_cons_zero, put_lit, List.set_cons_zero, List.set_cons_succ]
        refine wpAnyH_ready (rs := [3, 9]) (by kernel_rfl) (by simp) ?_
        refine AllReadyH.cons rfl (fun K hK => ?_) (AllReadyH.cons rfl (fun K hK => ?_) AllReadyH.nil)
        · clear hHeld
          go_simp
          refine (HWD.out _ hB).mono ?_
          rintro e v2 ⟨rfl, hbn⟩
          try go_wp2_with fail
          replace h80 := (hbn.block _ (lt_of_block h80)).trans h80
          replace hB := hB.trans (hbn.mono hB.size)
          clear hbn
          refine hK.out _ _ (HSS.out _ hB) (fun hHeld => ?_)
          clear hK K
          try simp only [List.getElem_toArray, List.getElem_cons_succ, List.getElem_cons_zero, put_lit, List.set_cons_zero, List.set_cons_succ]
          refine wpAnyH_take (i := 5) (v := RR) rfl (by kernel_rfl) (by kernel_rfl) (by kernel_rfl) (fun _ _ _ h => h) (Or.inl ⟨by rfl, ?_⟩) hHeld ?_
          · (intro w' hSw; obtain ⟨y1, y2, y3⟩ := hSw; go_simp)
          try simp only [List.getElem_toArray, List.getElem_cons_succ, List.getElem_cons_zero, put_lit, List.set_cons_zero, List.set_cons_succ]
          refine wpAnyH_take (i := 7) (v := .int .i64 wd) rfl (by kernel_rfl) (by kernel_rfl) (by kernel_rfl) (fun _ _ _ h => h) (Or.inl ⟨by rfl, ?_⟩) hHeld ?_
          · (intro w' hSw; obtain ⟨y1, y2, y3⟩ := hSw; go_simp)
          try simp only [List.getElem_toArray, List.getElem_cons_succ, List.getElem_cons_zero, put_lit, List.set_cons_zero, List.set_cons_succ]
          refine wpAnyH_ready (rs := [9]) (by kernel_rfl) (by simp) ?_
          refine AllReadyH.cons rfl (fun K hK => ?_) AllReadyH.nil
          · clear hHeld
            have g3 : wq.heap.size ≤ v2.heap.size := by first | exact hB.size | (have := hB.size; simp at this; omega)
            have gne : v1.heap.size < v2.heap.size := by first | exact lt_of_block h80 | (have := lt_of_block h80; simp at this; omega)
            go_simp
            have hbn : Below (v2).heap.size (v2) ((v2).alloc (.cells #[.int .i64 0] 3)) := (Below.refl _ _).alloc (Nat.le_refl _) _
            replace h80 := (hbn.block _ (lt_of_block h80)).trans h80
            replace hB := hB.trans (hbn.mono hB.size)
            clear hbn
            have h3 : (((v2).alloc (.cells #[.int .i64 0] 3))).heap[v2.heap.size]? = some (.cells #[.int .i64 0] 3 (0, 0)) := alloc_new _ _ _ (by simp)
            refine hK.out _ _ (HSS.out _ hB) (fun hHeld => ?_)
            clear hK K
            try simp only [List.getElem_toArray, List.getElem_cons_succ, List.getElem_cons_zero, put_lit, List.set_cons_zero, List.set_cons_succ]
            refine wpAnyH_ready (rs := [10]) (by kernel_rfl) (by simp) ?_
            refine AllReadyH.cons rfl (fun K hK => ?_) AllReadyH.nil
            clear hHeld
            refine wp_store_row 80 _ _ rfl (v1.heap.size) (matC M) (by simp [Act.eval]) (by simp [Act.eval]) 80 _ h80 (HI9.out _) (by rw [matC_size]; rfl) (matC_one M) ?_
            have hBs := below_setRow hB g80 (matC M)
            refine hK.out _ _ (HSS.out _ hBs) (fun hHeld => ?_)
            clear hK K
            try simp only [List.getElem_toArray, List.getElem_cons_succ, List.getElem_cons_zero, put_lit, List.set_cons_zero, List.set_cons_succ]
            have k80 := setRow_blk (c' := matC M) h80
            have k3 := (setRow_far (c := matC M) (b := v2.heap.size) (g := v1.heap.size) (by omega)).trans h3
            refine wpAnyH_ready (rs := [11]) (by kernel_rfl) (by simp) ?_
            refine AllReadyH.cons rfl (fun K hK => ?_) AllReadyH.nil
            clear hHeld
            have q3 := blk_cell k3 0
            have f3 := blk_free k3 0
            simp only [List.getElem?_toArray, List.getElem?_cons_zero] at q3
            go_simp
            have hBt := hBs.setCell (p := ⟨v2.heap.size, 0, none⟩) g3 (.int .i64 wd)
            refine hK.out _ _ (HSS.out _ hBt) (fun hHeld => ?_)
            clear hK K
            try simp only [List.getElem_toArray, List.getElem_cons_succ, List.getElem_cons_zero, put_lit, List.set_cons_zero, List.set_cons_succ]
            refine wpAnyH_done (by kernel_rfl) ?_ _
            refine NoPanic.normal ?_
            go_wp2_with fail
            go_meet
            exact ⟨v1.heap.size, v2.heap.size, rfl, rfl, (blk_far _ (by omega)).trans k80, blk_cell (blk_set k3 0 _) 0, hBt⟩
        · clear hHeld
          have g3 : wq.heap.size ≤ v1.heap.size + 1 := by first | exact hB.size | (have := hB.size; simp at this; omega)
          have gne : v1.heap.size < v1.heap.size + 1 := by first | exact lt_of_block h80 | (have := lt_of_block h80; simp at this; omega)
          go_simp
          have hbn : Below (((v1).alloc (.cells #[.int .i64 0, .int .i64 0, .int .i64 0, .int .i64 0, .int .i64 0, .int .i64 0, .int .i64 0, .int .i64 0, .int .i64 0, .int .i64 0, .int .i64 0, .int .i64 0, .int .i64 0, .int .i64 0, .int .i64 0, .int .i64 0, .int .i64 0, .int .i64 0, .int .i64 0, .int .i64 0, .int .i64 0, .int .i64 0, .int .i64 0, .int .i64 0, .int .i64 0] 80))).heap.size (((v1).alloc (.cells #[.int .i64 0, .int .i64 0, .int .i64 0, .int .i64 0, .int .i64 0, .int .i64 0, .int .i64 0, .int .i64 0, .int .i64 0, .int .i64 0, .int .i64 0, .int .i64 0, .int .i64 0, .int .i64 0, .int .i64 0, .int .i64 0, .int .i64 0, .int .i64 0, .int .i64 0, .int .i64 0, .int .i64 0, .int .i64 0, .int .i64 0, .int .i64 0, .int .i64 0] 80))) ((((v1).alloc (.cells #[.int .i64 0, .int .i64 0, .int .i64 0, .int .i64 0, .int .i64 0, .int .i64 0, .int .i64 0, .int .i64 0, .int .i64 0, .int .i64 0, .int .i64 0, .int .i64 0, .int .i64 0, .int .i64 0, .int .i64 0, .int .i64 0, .int .i64 0, .int .i64 0, .int .i64 0, .int .i64 0, .int .i64 0, .int .i64 0, .int .i64 0, .int .i64 0, .int .i64 0] 80))).alloc (.cells #[.int .i64 0] 3)) := (Below.refl _ _).alloc (Nat.le_refl _) _
          replace h80 := (hbn.block _ (lt_of_block h80)).trans h80
          replace hB := hB.trans (hbn.mono hB.size)
          clear hbn
          have h3 : (((((v1).alloc (.cells #[.int .i64 0, .int .i64 0, .int .i64 0, .int .i64 0, .int .i64 0, .int .i64 0, .int .i64 0, .int .i64 0, .int .i64 0, .int .i64 0, .int .i64 0, .int .i64 0, .int .i64 0, .int .i64 0, .int .i64 0, .int .i64 0, .int .i64 0, .int .i64 0, .int .i64 0, .int .i64 0, .int .i64 0, .int .i64 0, .int .i64 0, .int .i64 0, .int .i64 0] 80))).alloc (.cells #[.int .i64 0] 3))).heap[v1.heap.size + 1]? = some (.cells #[.int .i64 0] 3 (0, 0)) := alloc_new _ _ _ (by simp)
          refine hK.out _ _ (HSS.out _ hB) (fun hHeld => ?_)
          clear hK K
          try simp only [List.getElem_toArray, List.getElem_cons_succ, List.getElem_cons_zero, put_lit, List.set_cons_zero, List.set_cons_succ]
          refine wpAnyH_ready (rs := [3]) (by kernel_rfl) (by simp) ?_
          refine AllReadyH.cons rfl (fun K hK => ?_) AllReadyH.nil
          · clear hHeld
            go_simp
            refine (HWD.out _ hB).mono ?_
            rintro e v2 ⟨rfl, hbn⟩
            try go_wp2_with fail
            replace h80 := (hbn.block _ (lt_of_block h80)).trans h80
            replace h3 := (hbn.block _ (lt_of_block h3)).trans h3
            replace hB := hB.trans (hbn.mono hB.size)
            clear hbn
            refine hK.out _ _ (HSS.out _ hB) (fun hHeld => ?_)
            clear hK K
            try simp only [List.getElem_toArray, List.getElem_cons_succ, List.getElem_cons_zero, put_lit, List.set_cons_zero, List.set_cons_succ]
            refine wpAnyH_take (i := 5) (v := RR) rfl (by kernel_rfl) (by kernel_rfl) (by kernel_rfl) (fun _ _ _ h => h) (Or.inl ⟨by rfl, ?_⟩) hHeld ?_
            · (intro w' hSw; obtain ⟨y1, y2, y3⟩ := hSw; go_simp)
            try simp only [List.getElem_toArray, List.getElem_cons_succ, List.getElem_cons_zero, put_lit, List.set_cons_zero, List.set_cons_succ]
            refine wpAnyH_take (i := 7) (v := .int .i64 wd) rfl (by kernel_rfl) (by kernel_rfl) (by kernel_rfl) (fun _ _ _ h => h) (Or.inl ⟨by rfl, ?_⟩) hHeld ?_
            · (intro w' hSw; obtain ⟨y1, y2, y3⟩ := hSw; go_simp)
            try simp only [List.getElem_toArray, List.getElem_cons_succ, List.getElem_cons_zero, put_lit, List.set_cons_zero, List.set_cons_succ]
            refine wpAnyH_ready (rs := [10]) (by kernel_rfl) (by simp) ?_
            refine AllReadyH.cons rfl (fun K hK => ?_) AllReadyH.nil
            clear hHeld
            refine wp_store_row 80 _ _ rfl (v1.heap.size) (matC M) (by simp [Act.eval]) (by simp [Act.eval]) 80 _ h80 (HI9.out _) (by rw [matC_size]; rfl) (matC_one M) ?_
            have hBs := below_setRow hB g80 (matC M)
            refine hK.out _ _ (HSS.out _ hBs) (fun hHeld => ?_)
            clear hK K
            try simp only [List.getElem_toArray, List.getElem_cons_succ, List.getElem_cons_zero, put_lit, List.set_cons_zero, List.set_cons_succ]
            have k80 := setRow_blk (c' := matC M) h80
            have k3 := (setRow_far (c := matC M) (b := v1.heap.size + 1) (g := v1.heap.size) (by omega)).trans h3
            refine wpAnyH_ready (rs := [11]) (by kernel_rfl) (by simp) ?_
            refine AllReadyH.cons rfl (fun K hK => ?_) AllReadyH.nil
            clear hHeld
            have q3 := blk_cell k3 0
            have f3 := blk_free k3 0
            simp only [List.getElem?_toArray, List.getElem?_cons_zero] at q3
            go_simp
            have hBt := hBs.setCell (p := ⟨v1.heap.size + 1, 0, none⟩) g3 (.int .i64 wd)
            refine hK.out _ _ (HSS.out _ hBt) (fun hHeld => ?_)
            clear hK K
            try simp only [List.getElem_toArray, List.getElem_cons_succ, List.getElem_cons_zero, put_lit, List.set_cons_zero, List.set_cons_succ]
            refine wpAnyH_done (by kernel_rfl) ?_ _
            refine NoPanic.normal ?_
            go_wp2_with fail
            go_meet
            exact ⟨v1.heap.size, v1.heap.size + 1, rfl, rfl, (blk_far _ (by omega)).trans k80, blk_cell (blk_set k3 0 _) 0, hBt⟩
      · clear hHeld
        have g3 : wq.heap.size ≤ v1.heap.size := by first | exact hB.size | (have := hB.size; simp at this; omega)
        go_simp
        have hbn : Below (v1).heap.size (v1) ((v1).alloc (.cells #[.int .i64 0] 3)) := (Below.refl _ _).alloc (Nat.le_refl _) _
        replace hB := hB.trans (hbn.mono hB.size)
        clear hbn
        have h3 : (((v1).alloc (.cells #[.int .i64 0] 3))).heap[v1.heap.size]? = some (.cells #[.int .i64 0] 3 (0, 0)) := alloc_new _ _ _ (by simp)
        refine hK.out _ _ (HSS.out _ hB) (fun hHeld => ?_)
        clear hK K
        try simp only [List.getElem_toArray, List.getElem_cons_succ, List.getElem_cons_zero, put_lit, List.set_cons_zero, List.set_cons_succ]
        refine wpAnyH_ready (rs := [3, 8]) (by kernel_rfl) (by simp) ?_
        refine AllReadyH.cons rfl (fun K hK => ?_) (AllReadyH.cons rfl (fun K hK => ?_) AllReadyH.nil)
        · clear hHeld
          go_simp
          refine (HWD.out _ hB).mono ?_
          rintro e v2 ⟨rfl, hbn⟩
          try go_wp2_with fail
          replace h3 := (hbn.block _ (lt_of_block h3)).trans h3
          replace hB := hB.trans (hbn.mono hB.size)
          clear hbn
          refine hK.out _ _ (HSS.out _ hB) (fun hHeld => ?_)
          clear hK K
          try simp only [List.getElem_toArray, List.getElem_cons_succ, List.getElem_cons_zero, put_lit, List.set_cons_zero, List.set_cons_succ]
          refine wpAnyH_take (i := 5) (v := RR) rfl (by kernel_rfl) (by kernel_rfl) (by kernel_rfl) (fun _ _ _ h => h) (Or.inl ⟨by rfl, ?_⟩) hHeld ?_
          · (intro w' hSw; obtain ⟨y1, y2, y3⟩ := hSw; go_simp)
          try simp only [List.getElem_toArray, List.getElem_cons_succ, List.getElem_cons_zero, put_lit, List.set_cons_zero, List.set_cons_succ]
          refine wpAnyH_take (i := 7) (v := .int .i64 wd) rfl (by kernel_rfl) (by kernel_rfl) (by kernel_rfl) (fun _ _ _ h => h) (Or.inl ⟨by rfl, ?_⟩) hHeld ?_
          · (intro w' hSw; obtain ⟨y1, y2, y3⟩ := hSw; go_simp)
          try simp only [List.getElem_toArray, List.getElem_cons_succ, List.getElem_cons_zero, put_lit, List.set_cons_zero, List.set_cons_succ]
          refine wpAnyH_ready (rs := [8]) (by kernel_rfl) (by simp) ?_
          refine AllReadyH.cons rfl (fun K hK => ?_) AllReadyH.nil
          · clear hHeld
            have g80 : wq.heap.size ≤ v2.heap.size := by first | exact hB.size | (have := hB.size; simp at this; omega)
            have gne : v1.heap.size < v2.heap.size := by first | exact lt_of_block h3 | (have := lt_of_block h3; simp at this; omega)
            go_simp
            have hbn : Below (v2).heap.size (v2) ((v2).alloc (.cells #[.int .i64 0, .int .i64 0, .int .i64 0, .int .i64 0, .int .i64 0, .int .i64 0, .int .i64 0, .int .i64 0, .int .i64 0, .int .i64 0, .int .i64 0, .int .i64 0, .int .i64 0, .int .i64 0, .int .i64 0, .int .i64 0, .int .i64 0, .int .i64 0, .int .i64 0, .int .i64 0, .int .i64 0, .int .i64 0, .int .i64 0, .int .i64 0, .int .i64 0] 80)) := (Below.refl _ _).alloc (Nat.le_refl _) _
            replace h3 := (hbn.block _ (lt_of_block h3)).trans h3
            replace hB := hB.trans (hbn.mono hB.size)
            clear hbn
            have h80 : (((v2).alloc (.cells #[.int .i64 0, .int .i64 0, .int .i64 0, .int .i64 0, .int .i64 0, .int .i64 0, .int .i64 0, .int .i64 0, .int .i64 0, .int .i64 0, .int .i64 0, .int .i64 0, .int .i64 0, .int .i64 0, .int .i64 0, .int .i64 0, .int .i64 0, .int .i64 0, .int .i64 0, .int .i64 0, .int .i64 0, .int .i64 0, .int .i64 0, .int .i64 0, .int .i64 0] 80))).heap[v2.heap.size]? = some (.cells #[.int .i64 0, .int .i64 0, .int .i64 0, .int .i64 0, .int .i64 0, .int .i64 0, .int .i64 0, .int .i64 0, .int .i64 0, .int .i64 0, .int .i64 0, .int .i64 0, .int .i64 0, .int .i64 0, .int .i64 0, .int .i64 0, .int .i64 0, .int .i64 0, .int .i64 0, .int .i64 0, .int .i64 0, .int .i64 0, .int .i64 0, .int .i64 0, .int .i64 0] 80 (0, 0)) := alloc_new _ _ _ (by simp)
            refine hK.out _ _ (HSS.out _ hB) (fun hHeld => ?_)
            clear hK K
            try simp only [List.getElem_toArray, List.getElem_cons_succ, List.getElem_cons_zero, put_lit, List.set_cons_zero, List.set_cons_succ]
            refine wpAnyH_ready (rs := [10]) (by kernel_rfl) (by simp) ?_
            refine AllReadyH.cons rfl (fun K hK => ?_) AllReadyH.nil
            clear hHeld
            refine wp_store_row 80 _ _ rfl (v2.heap.size) (matC M) (by simp [Act.eval]) (by simp [Act.eval]) 80 _ h80 (HI9.out _) (by rw [matC_size]; rfl) (matC_one M) ?_
            have hBs := below_setRow hB g80 (matC M)
            refine hK.out _ _ (HSS.out _ hBs) (fun hHeld => ?_)
            clear hK K
            try simp only [List.getElem_toArray, List.getElem_cons_succ, List.getElem_cons_zero, put_lit, List.set_cons_zero, List.set_cons_succ]
            have k80 := setRow_blk (c' := matC M) h80
            have k3 := (setRow_far (c := matC M) (b := v1.heap.size) (g := v2.heap.size) (by omega)).trans h3
            refine wpAnyH_ready (rs := [11]) (by kernel_rfl) (by simp) ?_
            refine AllReadyH.cons rfl (fun K hK => ?_) AllReadyH.nil
            clear hHeld
            have q3 := blk_cell k3 0
            have f3 := blk_free k3 0
            simp only [List.getElem?_toArray, List.getElem?_cons_zero] at q3
            go_simp
            have hBt := hBs.setCell (p := ⟨v1.heap.size, 0, none⟩) g3 (.int .i64 wd)
            refine hK.out _ _ (HSS.out _ hBt) (fun hHeld => ?_)
            clear hK K
            try simp only [List.getElem_toArray, List.getElem_cons_succ, List.getElem_cons_zero, put_lit, List.set_cons_zero, List.set_cons_succ]
            refine wpAnyH_done (by kernel_rfl) ?_ _
            refine NoPanic.normal ?_
            go_wp2_with fail
            go_meet
            exact ⟨v2.heap.size, v1.heap.size, rfl, rfl, (blk_far _ (by omega)).trans k80, blk_cell (blk_set k3 0 _) 0, hBt⟩
        · clear hHeld
          have g80 : wq.heap.size ≤ v1.heap.size + 1 := by first | exact hB.size | (have := hB.size; simp at this; omega)
          have gne : v1.heap.size < v1.heap.size + 1 := by first | exact lt_of_block h3 | (have := lt_of_block h3; simp at this; omega)
          go_simp
          have hbn : Below (((v1).alloc (.cells #[.int .i64 0] 3))).heap.size (((v1).alloc (.cells #[.int .i64 0] 3))) ((((v1).alloc (.cells #[.int .i64 0] 3))).alloc (.cells #[.int .i64 0, .int .i64 0, .int .i64 0, .int .i64 0, .int .i64 0, .int .i64 0, .int .i64 0, .int .i64 0, .int .i64 0, .int .i64 0, .int .i64 0, .int .i64 0, .int .i64 0, .int .i64 0, .int .i64 0, .int .i64 0, .int .i64 0, .int .i64 0, .int .i64 0, .int .i64 0, .int .i64 0, .int .i64 0, .int .i64 0, .int .i64 0, .int .i64 0] 80)) := (Below.refl _ _).alloc (Nat.le_refl _) _
          replace h3 := (hbn.block _ (lt_of_block h3)).trans h3
          replace hB := hB.trans (hbn.mono hB.size)
          clear hbn
          have h80 : (((((v1).alloc (.cells #[.int .i64 0] 3))).alloc (.cells #[.int .i64 0, .int .i64 0, .int .i64 0, .int .i64 0, .int .i64 0, .int .i64 0, .int .i64 0, .int .i64 0, .int .i64 0, .int .i64 0, .int .i64 0, .int .i64 0, .int .i64 0, .int .i64 0, .int .i64 0, .int .i64 0, .int .i64 0, .int .i64 0, .int .i64 0, .int .i64 0, .int .i64 0, .int .i64 0, .int .i64 0, .int .i64 0, .int .i64 0] 80))).heap[v1.heap.size + 1]? = some (.cells #[.int .i64 0, .int .i64 0, .int .i64 0, .int .i64 0, .int .i64 0, .int .i64 0, .int .i64 0, .int .i64 0, .int .i64 0, .int .i64 0, .int .i64 0, .int .i64 0, .int .i64 0, .int .i64 0, .int .i64 0, .int .i64 0, .int .i64 0, .int .i64 0, .int .i64 0, .int .i64 0, .int .i64 0, .int .i64 0, .int .i64 0, .int .i64 0, .int .i64 0] 80 (0, 0)) := alloc_new _ _ _ (by simp)
          refine hK.out _ _ (HSS.out _ hB) (fun hHeld => ?_)
          clear hK K
          try simp only [List.getElem_toArray, List.getElem_cons_succ, List.getElem_cons_zero, put_lit, List.set_cons_zero, List.set_cons_succ]
          refine wpAnyH_ready (rs := [3]) (by kernel_rfl) (by simp) ?_
          refine AllReadyH.cons rfl (fun K hK => ?_) AllReadyH.nil
          · clear hHeld
            go_simp
            refine (HWD.out _ hB).mono ?_
            rintro e v2 ⟨rfl, hbn⟩
            try go_wp2_with fail
            replace h3 := (hbn.block _ (lt_of_block h3)).trans h3
            replace h80 := (hbn.block _ (lt_of_block h80)).trans h80
            replace hB := hB.trans (hbn.mono hB.size)
            clear hbn
            refine hK.out _ _ (HSS.out _ hB) (fun hHeld => ?_)
            clear hK K
            try simp only [List.getElem_toArray, List.getElem_cons_succ, List.getElem_cons_zero, put_lit, List.set_cons_zero, List.set_cons_succ]
            refine wpAnyH_take (i := 5) (v := RR) rfl (by kernel_rfl) (by kernel_rfl) (by kernel_rfl) (fun _ _ _ h => h) (Or.inl ⟨by rfl, ?_⟩) hHeld ?_
            · (intro w' hSw; obtain ⟨y1, y2, y3⟩ := hSw; go_simp)
            try simp only [List.getElem_toArray, List.getElem_cons_succ, List.getElem_cons_zero, put_lit, List.set_cons_zero, List.set_cons_succ]
            refine wpAnyH_take (i := 7) (v := .int .i64 wd) rfl (by kernel_rfl) (by kernel_rfl) (by kernel_rfl) (fun _ _ _ h => h) (Or.inl ⟨by rfl, ?_⟩) hHeld ?_
            · (intro w' hSw; obtain ⟨y1, y2, y3⟩ := hSw; go_simp)
            try simp only [List.getElem_toArray, List.getElem_cons_succ, List.getElem_cons_zero, put_lit, List.set_cons_zero, List.set_cons_succ]
            refine wpAnyH_ready (rs := [10]) (by kernel_rfl) (by simp) ?_
            refine AllReadyH.cons rfl (fun K hK => ?_) AllReadyH.nil
            clear hHeld
            refine wp_store_row 80 _ _ rfl (v1.heap.size + 1) (matC M) (by simp [Act.eval]) (by simp [Act.eval]) 80 _ h80 (HI9.out _) (by rw [matC_size]; rfl) (matC_one M) ?_
            have hBs := below_setRow hB g80 (matC M)
            refine hK.out _ _ (HSS.out _ hBs) (fun hHeld => ?_)
            clear hK K
            try simp only [List.getElem_toArray, List.getElem_cons_succ, List.getElem_cons_zero, put_lit, List.set_cons_zero, List.set_cons_succ]
            have k80 := setRow_blk (c' := matC M) h80
            have k3 := (setRow_far (c := matC M) (b := v1.heap.size) (g := v1.heap.size + 1) (by omega)).trans h3
            refine wpAnyH_ready (rs := [11]) (by kernel_rfl) (by simp) ?_
            refine AllReadyH.cons rfl (fun K hK => ?_) AllReadyH.nil
            clear hHeld
            have q3 := blk_cell k3 0
            have f3 := blk_free k3 0
            simp only [List.getElem?_toArray, List.getElem?_cons_zero] at q3
            go_simp
            have hBt := hBs.setCell (p := ⟨v1.heap.size, 0, none⟩) g3 (.int .i64 wd)
            refine hK.out _ _ (HSS.out _ hBt) (fun hHeld => ?_)
            clear hK K
            try simp only [List.getElem_toArray, List.getElem_cons_succ, List.getElem_cons_zero, put_lit, List.set_cons_zero, List.set_cons_succ]
            refine wpAnyH_done (by kernel_rfl) ?_ _
            refine NoPanic.normal ?_
            go_wp2_with fail
            go_meet
            exact ⟨v1.heap.size + 1, v1.heap.size, rfl, rfl, (blk_far _ (by omega)).trans k80, blk_cell (blk_set k3 0 _) 0, hBt⟩
    · clear hHeld
      have g80 : wq.heap.size ≤ wq.heap.size := by first | exact hB.size | (have := hB.size; simp at this; omega)
      go_simp
      have hbn : Below (wq.drew).heap.size (wq.drew) ((wq.drew).alloc (.cells #[.int .i64 0, .int .i64 0, .int .i64 0, .int .i64 0, .int .i64 0, .int .i64 0, .int .i64 0, .int .i64 0, .int .i64 0, .int .i64 0, .int .i64 0, .int .i64 0, .int .i64 0, .int .i64 0, .int .i64 0, .int .i64 0, .int .i64 0, .int .i64 0, .int .i64 0, .int .i64 0, .int .i64 0, .int .i64 0, .int .i64 0, .int .i64 0, .int .i64 0] 80)) := (Below.refl _ _).alloc (Nat.le_refl _) _
      replace hB := hB.trans (hbn.mono hB.size)
      clear hbn
      have h80 : (((wq.drew).alloc (.cells #[.int .i64 0, .int .i64 0, .int .i64 0, .int .i64 0, .int .i64 0, .int .i64 0, .int .i64 0, .int .i64 0, .int .i64 0, .int .i64 0, .int .i64 0, .int .i64 0, .int .i64 0, .int .i64 0, .int .i64 0, .int .i64 0, .int .i64 0, .int .i64 0, .int .i64 0, .int .i64 0, .int .i64 0, .int .i64 0, .int .i64 0, .int .i64 0, .int .i64 0] 80))).heap[wq.heap.size]? = some (.cells #[.int .i64 0, .int .i64 0, .int .i64 0, .int .i64 0, .int .i64 0, .int .i64 0, .int .i64 0, .int .i64 0, .int .i64 0, .int .i64 0, .int .i64 0, .int .i64 0, .int .i64 0, .int .i64 0, .int .i64 0, .int .i64 0, .int .i64 0, .int .i64 0, .int .i64 0, .int .i64 0, .int .i64 0, .int .i64 0, .int .i64 0, .int .i64 0, .int .i64 0] 80 (0, 0)) := alloc_new _ _ _ (by simp)
      refine hK.out _ _ (HSS.out _ hB) (fun hHeld => ?_)
      clear hK K
      try simp only [List.getElem_toArray, List.getElem_cons_succ, List.getElem_cons_zero, put_lit, List.set_cons_zero, List.set_cons_succ]
      refine wpAnyH_ready (rs := [1, 9]) (by kernel_rfl) (by simp) ?_
      refine AllReadyH.cons rfl (fun K hK => ?_) (AllReadyH.cons rfl (fun K hK => ?_) AllReadyH.nil)
      · clear hHeld
        go_simp
        refine (HMG.out _ hB).mono ?_
        rintro e v1 ⟨rfl, hbn⟩
        try go_wp2_with fail
        replace h80 := (hbn.block _ (lt_of_block h80)).trans h80
        replace hB := hB.trans (hbn.mono hB.size)
        clear hbn
        refine hK.out _ _ (HSS.out _ hB) (fun hHeld => ?_)
        clear hK K
        try simp only [List.getElem_toArray, List.getElem_cons_succ, List.getElem_cons_zero, put_lit, List.set_cons_zero, List.set_cons_succ]
        refine wpAnyH_ready (rs := [3, 9]) (by kernel_rfl) (by simp) ?_
        refine AllReadyH.cons rfl (fun K hK => ?_) (AllReadyH.cons rfl (fun K hK => ?_) AllReadyH.nil)
        · clear hHeld
          go_simp
          refine (HWD.out _ hB).mono ?_
          rintro e v2 ⟨rfl, hbn⟩
          try go_wp2_with fail
          replace h80 := (hbn.block _ (lt_of_block h80)).trans h80
          replace hB := hB.trans (hbn.mono hB.size)
          clear hbn
          refine hK.out _ _ (HSS.out _ hB) (fun hHeld => ?_)
          clear hK K
          try simp only [List.getElem_toArray, List.getElem_cons_succ, List.getElem_cons_zero, put_lit, List.set_cons_zero, List.set_cons_succ]
          refine wpAnyH_take (i := 5) (v := RR) rfl (by kernel_rfl) (by kernel_rfl) (by kernel_rfl) (fun _ _ _ h => h) (Or.inl ⟨by rfl, ?_⟩) hHeld ?_
          · (intro w' hSw; obtain ⟨y1, y2, y3⟩ := hSw; go_simp)
          try simp only [List.getElem_toArray, List.getElem_cons_succ, List.getElem_cons_zero, put_lit, List.set_cons_zero, List.set_cons_succ]
          refine wpAnyH_take (i := 7) (v := .int .i64 wd) rfl (by kernel_rfl) (by kernel_rfl) (by kernel_rfl) (fun _ _ _ h => h) (Or.inl ⟨by rfl, ?_⟩) hHeld ?_
          · (intro w' hSw; obtain ⟨y1, y2, y3⟩ := hSw; go_simp)
          try simp only [List.getElem_toArray, List.getElem_cons_succ, List.getElem_cons_zero, put_lit, List.set_cons_zero, List.set_cons_succ]
          refine wpAnyH_ready (rs := [9]) (by kernel_rfl) (by simp) ?_
          refine AllReadyH.cons rfl (fun K hK => ?_) AllReadyH.nil
          · clear hHeld
            have g3 : wq.heap.size ≤ v2.heap.size := by first | exact hB.size | (have := hB.size; simp at this; omega)
            have gne : wq.heap.size < v2.heap.size := by first | exact lt_of_block h80 | (have := lt_of_block h80; simp at this; omega)
            go_simp
            have hbn : Below (v2).heap.size (v2) ((v2).alloc (.cells #[.int .i64 0] 3)) := (Below.refl _ _).alloc (Nat.le_refl _) _
            replace h80 := (hbn.block _ (lt_of_block h80)).trans h80
            replace hB := hB.trans (hbn.mono hB.size)
            clear hbn
            have h3 : (((v2).alloc (.cells #[.int .i64 0] 3))).heap[v2.heap.size]? = some (.cells #[.int .i64 0] 3 (0, 0)) := alloc_new _ _ _ (by simp)
            refine hK.out _ _ (HSS.out _ hB) (fun hHeld => ?_)
            clear hK K
            try simp only [List.getElem_toArray, List.getElem_cons_succ, List.getElem_cons_zero, put_lit, List.set_cons_zero, List.set_cons_succ]
            refine wpAnyH_ready (rs := [10]) (by kernel_rfl) (by simp) ?_
            refine AllReadyH.cons rfl (fun K hK => ?_) AllReadyH.nil
            clear hHeld
            refine wp_store_row 80 _ _ rfl (wq.heap.size) (matC M) (by simp [Act.eval]) (by simp [Act.eval]) 80 _ h80 (HI9.out _) (by rw [matC_size]; rfl) (matC_one M) ?_
            have hBs := below_setRow hB g80 (matC M)
            refine hK.out _ _ (HSS.out _ hBs) (fun hHeld => ?_)
            clear hK K
            try simp only [List.getElem_toArray, List.getElem_cons_succ, List.getElem_cons_zero, put_lit, List.set_cons_zero, List.set_cons_succ]
            have k80 := setRow_blk (c' := matC M) h80
            have k3 := (setRow_far (c := matC M) (b := v2.heap.size) (g := wq.heap.size) (by omega)).trans h3
            refine wpAnyH_ready (rs := [11]) (by kernel_rfl) (by simp) ?_
            refine AllReadyH.cons rfl (fun K hK => ?_) AllReadyH.nil
            clear hHeld
            have q3 := blk_cell k3 0
            have f3 := blk_free k3 0
            simp only [List.getElem?_toArray, List.getElem?_cons_zero] at q3
            go_simp
            have hBt := hBs.setCell (p := ⟨v2.heap.size, 0, none⟩) g3 (.int .i64 wd)
            refine hK.out _ _ (HSS.out _ hBt) (fun hHeld => ?_)
            clear hK K
            try simp only [List.getElem_toArray, List.getElem_cons_succ, List.getElem_cons_zero, put_lit, List.set_cons_zero, List.set_cons_succ]
            refine wpAnyH_done (by kernel_rfl) ?_ _
            refine NoPanic.normal ?_
            go_wp2_with fail
            go_meet
            exact ⟨wq.heap.size, v2.heap.size, rfl, rfl, (blk_far _ (by omega)).trans k80, blk_cell (blk_set k3 0 _) 0, hBt⟩
        · clear hHeld
          have g3 : wq.heap.size ≤ v1.heap.size := by first | exact hB.size | (have := hB.size; simp at this; omega)
          have gne : wq.heap.size < v1.heap.size := by first | exact lt_of_block h80 | (have := lt_of_block h80; simp at this; omega)
          go_simp
          have hbn : Below (v1).heap.size (v1) ((v1).alloc (.cells #[.int .i64 0] 3)) := (Below.refl _ _).alloc (Nat.le_refl _) _
          replace h80 := (hbn.block _ (lt_of_block h80)).trans h80
          replace hB := hB.trans (hbn.mono hB.size)
          clear hbn
          have h3 : (((v1).alloc (.cells #[.int .i64 0] 3))).heap[v1.heap.size]? = some (.cells #[.int .i64 0] 3 (0, 0)) := alloc_new _ _ _ (by simp)
          refine hK.out _ _ (HSS.out _ hB) (fun hHeld => ?_)
          clear hK K
          try simp only [List.getElem_toArray, List.getElem_cons_succ, List.getElem_cons_zero, put_lit, List.set_cons_zero, List.set_cons_succ]
          refine wpAnyH_ready (rs := [3]) (by kernel_rfl) (by simp) ?_
          refine AllReadyH.cons rfl (fun K hK => ?_) AllReadyH.nil
          · clear hHeld
            go_simp
            refine (HWD.out _ hB).mono ?_
            rintro e v2 ⟨rfl, hbn⟩
            try go_wp2_with fail
            replace h80 := (hbn.block _ (lt_of_block h80)).trans h80
            replace h3 := (hbn.block _ (lt_of_block h3)).trans h3
            replace hB := hB.trans (hbn.mono hB.size)
            clear hbn
            refine hK.out _ _ (HSS.out _ hB) (fun hHeld => ?_)
            clear hK K
            try simp only [List.getElem_toArray, List.getElem_cons_succ, List.getElem_cons_zero, put_lit, List.set_cons_zero, List.set_cons_succ]
            refine wpAnyH_take (i := 5) (v := RR) rfl (by kernel_rfl) (by kernel_rfl) (by kernel_rfl) (fun _ _ _ h => h) (Or.inl ⟨by rfl, ?_⟩) hHeld ?_
            · (intro w' hSw; obtain ⟨y1, y2, y3⟩ := hSw; go_simp)
            try simp only [List.getElem_toArray, List.getElem_cons_succ, List.getElem_cons_zero, put_lit, List.set_cons_zero, List.set_cons_succ]
            refine wpAnyH_take (i := 7) (v := .int .i64 wd) rfl (by kernel_rfl) (by kernel_rfl) (by kernel_rfl) (fun _ _ _ h => h) (Or.inl ⟨by rfl, ?_⟩) hHeld ?_
            · (intro w' hSw; obtain ⟨y1, y2, y3⟩ := hSw; go_simp)
            try simp only [List.getElem_toArray, List.getElem_cons_succ, List.getElem_cons_zero, put_lit, List.set_cons_zero, List.set_cons_succ]
            refine wpAnyH_ready (rs := [10]) (by kernel_rfl) (by simp) ?_
            refine AllReadyH.cons rfl (fun K hK => ?_) AllReadyH.nil
            clear hHeld
            refine wp_store_row 80 _ _ rfl (wq.heap.size) (matC M) (by simp [Act.eval]) (by simp [Act.eval]) 80 _ h80 (HI9.out _) (by rw [matC_size]; rfl) (matC_one M) ?_
            have hBs := below_setRow hB g80 (matC M)
            refine hK.out _ _ (HSS.out _ hBs) (fun hHeld => ?_)
            clear hK K
            try simp only [List.getElem_toArray, List.getElem_cons_succ, List.getElem_cons_zero, put_lit, List.set_cons_zero, List.set_cons_succ]
            have k80 := setRow_blk (c' := matC M) h80
            have k3 := (setRow_far (c := matC M) (b := v1.heap.size) (g := wq.heap.size) (by omega)).trans h3
            refine wpAnyH_ready (rs := [11]) (by kernel_rfl) (by simp) ?_
            refine AllReadyH.cons rfl (fun K hK => ?_) AllReadyH.nil
            clear hHeld
            have q3 := blk_cell k3 0
            have f3 := blk_free k3 0
            simp only [List.getElem?_toArray, List.getElem?_cons_zero] at q3
            go_simp
            have hBt := hBs.setCell (p := ⟨v1.heap.size, 0, none⟩) g3 (.int .i64 wd)
            refine hK.out _ _ (HSS.out _ hBt) (fun hHeld => ?_)
            clear hK K
            try simp only [List.getElem_toArray, List.getElem_cons_succ, List.getElem_cons_zero, put_lit, List.set_cons_zero, List.set_cons_succ]
            refine wpAnyH_done (by kernel_rfl) ?_ _
            refine NoPanic.normal ?_
            go_wp2_with fail
            go_meet
            exact ⟨wq.heap.size, v1.heap.size, rfl, rfl, (blk_far _ (by omega)).trans k80, blk_cell (blk_set k3 0 _) 0, hBt⟩
      · clear hHeld
        have g3 : wq.heap.size ≤ wq.heap.size + 1 := by first | exact hB.size | (have := hB.size; simp at this; omega)
        have gne : wq.heap.size < wq.heap.size + 1 := by first | exact lt_of_block h80 | (have := lt_of_block h80; simp at this; omega)
        go_simp
        have hbn : Below (((wq.drew).alloc (.cells #[.int .i64 0, .int .i64 0, .int .i64 0, .int .i64 0, .int .i64 0, .int .i64 0, .int .i64 0, .int .i64 0, .int .i64 0, .int .i64 0, .int .i64 0, .int .i64 0, .int .i64 0, .int .i64 0, .int .i64 0, .int .i64 0, .int .i64 0, .int .i64 0, .int .i64 0, .int .i64 0, .int .i64 0, .int .i64 0, .int .i64 0, .int .i64 0, .int .i64 0] 80))).heap.size (((wq.drew).alloc (.cells #[.int .i64 0, .int .i64 0, .int .i64 0, .int .i64 0, .int .i64 0, .int .i64 0, .int .i64 0, .int .i64 0, .int .i64 0, .int .i64 0, .int .i64 0, .int .i64 0, .int .i64 0, .int .i64 0, .int .i64 0, .int .i64 0, .int .i64 0, .int .i64 0, .int .i64 0, .int .i64 0, .int .i64 0, .int .i64 0, .int .i64 0, .int .i64 0, .int .i64 0] 80))) ((((wq.drew).alloc (.cells #[.int .i64 0, .int .i64 0, .int .i64 0, .int .i64 0, .int .i64 0, .int .i64 0, .int .i64 0, .int .i64 0, .int .i64 0, .int .i64 0, .int .i64 0, .int .i64 0, .int .i64 0, .int .i64 0, .int .i64 0, .int .i64 0, .int .i64 0, .int .i64 0, .int .i64 0, .int .i64 0, .int .i64 0, .int .i64 0, .int .i64 0, .int .i64 0, .int .i64 0] 80))).alloc (.cells #[.int .i64 0] 3)) := (Below.refl _ _).alloc (Nat.le_refl _) _
        replace h80 := (hbn.block _ (lt_of_block h80)).trans h80
        replace hB := hB.trans (hbn.mono hB.size)
        clear hbn
        have h3 : (((((wq.drew).alloc (.cells #[.int .i64 0, .int .i64 0, .int .i64 0, .int .i64 0, .int .i64 0, .int .i64 0, .int .i64 0, .int .i64 0, .int .i64 0, .int .i64 0, .int .i64 0, .int .i64 0, .int .i64 0, .int .i64 0, .int .i64 0, .int .i64 0, .int .i64 0, .int .i64 0, .int .i64 0, .int .i64 0, .int .i64 0, .int .i64 0, .int .i64 0, .int .i64 0, .int .i64 0] 80))).alloc (.cells #[.int .i64 0] 3))).heap[wq.heap.size + 1]? = some (.cells #[.int .i64 0] 3 (0, 0)) := alloc_new _ _ _ (by simp)
        refine hK.out _ _ (HSS.out _ hB) (fun hHeld => ?_)
        clear hK K
        try simp only [List.getElem_toArray, List.getElem_cons_succ, List.getElem_cons_zero, put_lit, List.set_cons_zero, List.set_cons_succ]
        refine wpAnyH_ready (rs := [1]) (by kernel_rfl) (by simp) ?_
        refine AllReadyH.cons rfl (fun K hK => ?_) AllReadyH.nil
        · clear hHeld
          go_simp
          refine (HMG.out _ hB).mono ?_
          rintro e v1 ⟨rfl, hbn⟩
          try go_wp2_with fail
          replace h80 := (hbn.block _ (lt_of_block h80)).trans h80
          replace h3 := (hbn.block _ (lt_of_block h3)).trans h3
          replace hB := hB.trans (hbn.mono hB.size)
          clear hbn
          refine hK.out _ _ (HSS.out _ hB) (fun hHeld => ?_)
          clear hK K
          try simp only [List.getElem_toArray, List.getElem_cons_succ, List.getElem_cons_zero, put_lit, List.set_cons_zero, List.set_cons_succ]
          refine wpAnyH_ready (rs := [3]) (by kernel_rfl) (by simp) ?_
          refine AllReadyH.cons rfl (fun K hK => ?_) AllReadyH.nil
          · clear hHeld
            go_simp
            refine (HWD.out _ hB).mono ?_
            rintro e v2 ⟨rfl, hbn⟩
            try go_wp2_with fail
            replace h80 := (hbn.block _ (lt_of_block h80)).trans h80
            replace h3 := (hbn.block _ (lt_of_block h3)).trans h3
            replace hB := hB.trans (hbn.mono hB.size)
            clear hbn
            refine hK.out _ _ (HSS.out _ hB) (fun hHeld => ?_)
            clear hK K
            try simp only [List.getElem_toArray, List.getElem_cons_succ, List.getElem_cons_zero, put_lit, List.set_cons_zero, List.set_cons_succ]
            refine wpAnyH_take (i := 5) (v := RR) rfl (by kernel_rfl) (by kernel_rfl) (by kernel_rfl) (fun _ _ _ h => h) (Or.inl ⟨by rfl, ?_⟩) hHeld ?_
            · (intro w' hSw; obtain ⟨y1, y2, y3⟩ := hSw; go_simp)
            try simp only [List.getElem_toArray, List.getElem_cons_succ, List.getElem_cons_zero, put_lit, List.set_cons_zero, List.set_cons_succ]
            refine wpAnyH_take (i := 7) (v := .int .i64 wd) rfl (by kernel_rfl) (by kernel_rfl) (by kernel_rfl) (fun _ _ _ h => h) (Or.inl ⟨by rfl, ?_⟩) hHeld ?_
            · (intro w' hSw; obtain ⟨y1, y2, y3⟩ := hSw; go_simp)
            try simp only [List.getElem_toArray, List.getElem_cons_succ, List.getElem_cons_zero, put_lit, List.set_cons_zero, List.set_cons_succ]
            refine wpAnyH_ready (rs := [10]) (by kernel_rfl) (by simp) ?_
            refine AllReadyH.cons rfl (fun K hK => ?_) AllReadyH.nil
            clear hHeld
            refine wp_store_row 80 _ _ rfl (wq.heap.size) (matC M) (by simp [Act.eval]) (by simp [Act.eval]) 80 _ h80 (HI9.out _) (by rw [matC_size]; rfl) (matC_one M) ?_
            have hBs := below_setRow hB g80 (matC M)
            refine hK.out _ _ (HSS.out _ hBs) (fun hHeld => ?_)
            clear hK K
            try simp only [List.getElem_toArray, List.getElem_cons_succ, List.getElem_cons_zero, put_lit, List.set_cons_zero, List.set_cons_succ]
            have k80 := setRow_blk (c' := matC M) h80
            have k3 := (setRow_far (c := matC M) (b := wq.heap.size + 1) (g := wq.heap.size) (by omega)).trans h3
            refine wpAnyH_ready (rs := [11]) (by kernel_rfl) (by simp) ?_
            refine AllReadyH.cons rfl (fun K hK => ?_) AllReadyH.nil
            clear hHeld
            have q3 := blk_cell k3 0
            have f3 := blk_free k3 0
            simp only [List.getElem?_toArray, List.getElem?_cons_zero] at q3
            go_simp
            have hBt := hBs.setCell (p := ⟨wq.heap.size + 1, 0, none⟩) g3 (.int .i64 wd)
            refine hK.out _ _ (HSS.out _ hBt) (fun hHeld => ?_)
            clear hK K
            try simp only [List.getElem_toArray, List.getElem_cons_succ, List.getElem_cons_zero, put_lit, List.set_cons_zero, List.set_cons_succ]
            refine wpAnyH_done (by kernel_rfl) ?_ _
            refine NoPanic.normal ?_
            go_wp2_with fail
            go_meet
            exact ⟨wq.heap.size, wq.heap.size + 1, rfl, rfl, (blk_far _ (by omega)).trans k80, blk_cell (blk_set k3 0 _) 0, hBt⟩
    · clear hHeld
      have g3 : wq.heap.size ≤ wq.heap.size := by first | exact hB.size | (have := hB.size; simp at this; omega)
      go_simp
      have hbn : Below (wq.drew).heap.size (wq.drew) ((wq.drew).alloc (.cells #[.int .i64 0] 3)) := (Below.refl _ _).alloc (Nat.le_refl _) _
      replace hB := hB.trans (hbn.mono hB.size)
      clear hbn
      have h3 : (((wq.drew).alloc (.cells #[.int .i64 0] 3))).heap[wq.heap.size]? = some (.cells #[.int .i64 0] 3 (0, 0)) := alloc_new _ _ _ (by simp)
      refine hK.out _ _ (HSS.out _ hB) (fun hHeld => ?_)
      clear hK K
      try simp only [List.getElem_toArray, List.getElem_cons_succ, List.getElem_cons_zero, put_lit, List.set_cons_zero, List.set_cons_succ]
      refine wpAnyH_ready (rs := [1, 8]) (by kernel_rfl) (by simp) ?_
      refine AllReadyH.cons rfl (fun K hK => ?_) (AllReadyH.cons rfl (fun K hK => ?_) AllReadyH.nil)
      · clear hHeld
        go_simp
        refine (HMG.out _ hB).mono ?_
        rintro e v1 ⟨rfl, hbn⟩
        try go_wp2_with fail
        replace h3 := (hbn.block _ (lt_of_block h3)).trans h3
        replace hB := hB.trans (hbn.mono hB.size)
        clear hbn
        refine hK.out _ _ (HSS.out _ hB) (fun hHeld => ?_)
        clear hK K
        try simp only [List.getElem_toArray, List.getElem_cons_succ, List.getElem_cons_zero, put_lit, List.set_cons_zero, List.set_cons_succ]
        refine wpAnyH_ready (rs := [3, 8]) (by kernel_rfl) (by simp) ?_
        refine AllReadyH.cons rfl (fun K hK => ?_) (AllReadyH.cons rfl (fun K hK => ?_) AllReadyH.nil)
        · clear hHeld
          go_simp
          refine (HWD.out _ hB).mono ?_
          rintro e v2 ⟨rfl, hbn⟩
          try go_wp2_with fail
          replace h3 := (hbn.block _ (lt_of_block h3)).trans h3
          replace hB := hB.trans (hbn.mono hB.size)
          clear hbn
          refine hK.out _ _ (HSS.out _ hB) (fun hHeld => ?_)
          clear hK K
          try simp only [List.getElem_toArray, List.getElem_cons_succ, List.getElem_cons_zero, put_lit, List.set_cons_zero, List.set_cons_succ]
          refine wpAnyH_take (i := 5) (v := RR) rfl (by kernel_rfl) (by kernel_rfl) (by kernel_rfl) (fun _ _ _ h => h) (Or.inl ⟨by rfl, ?_⟩) hHeld ?_
          · (intro w' hSw; obtain ⟨y1, y2, y3⟩ := hSw; go_simp)
          try simp only [List.getElem_toArray, List.getElem_cons_succ, List.getElem_cons_zero, put_lit, List.set_cons_zero, List.set_cons_succ]
          refine wpAnyH_take (i := 7) (v := .int .i64 wd) rfl (by kernel_rfl) (by kernel_rfl) (by kernel_rfl) (fun _ _ _ h => h) (Or.inl ⟨by rfl, ?_⟩) hHeld ?_
          · (intro w' hSw; obtain ⟨y1, y2, y3⟩ := hSw; go_simp)
          try simp only [List.getElem_toArray, List.getElem_cons_succ, List.getElem_cons_zero, put_lit, List.set_cons_zero, List.set_cons_succ]
          refine wpAnyH_ready (rs := [8]) (by kernel_rfl) (by simp) ?_
          refine AllReadyH.cons rfl (fun K hK => ?_) AllReadyH.nil
          · clear hHeld
            have g80 : wq.heap.size ≤ v2.heap.size := by first | exact hB.size | (have := hB.size; simp at this; omega)
            have gne : wq.heap.size < v2.heap.size := by first | exact lt_of_block h3 | (have := lt_of_block h3; simp at this; omega)
            go_simp
            have hbn : Below (v2).heap.size (v2) ((v2).alloc (.cells #[.int .i64 0, .int .i64 0, .int .i64 0, .int .i64 0, .int .i64 0, .int .i64 0, .int .i64 0, .int .i64 0, .int .i64 0, .int .i64 0, .int .i64 0, .int .i64 0, .int .i64 0, .int .i64 0, .int .i64 0, .int .i64 0, .int .i64 0, .int .i64 0, .int .i64 0, .int .i64 0, .int .i64 0, .int .i64 0, .int .i64 0, .int .i64 0, .int .i64 0] 80)) := (Below.refl _ _).alloc (Nat.le_refl _) _
            replace h3 := (hbn.block _ (lt_of_block h3)).trans h3
            replace hB := hB.trans (hbn.mono hB.size)
            clear hbn
            have h80 : (((v2).alloc (.cells #[.int .i64 0, .int .i64 0, .int .i64 0, .int .i64 0, .int .i64 0, .int .i64 0, .int .i64 0, .int .i64 0, .int .i64 0, .int .i64 0, .int .i64 0, .int .i64 0, .int .i64 0, .int .i64 0, .int .i64 0, .int .i64 0, .int .i64 0, .int .i64 0, .int .i64 0, .int .i64 0, .int .i64 0, .int .i64 0, .int .i64 0, .int .i64 0, .int .i64 0] 80))).heap[v2.heap.size]? = some (.cells #[.int .i64 0, .int .i64 0, .int .i64 0, .int .i64 0, .int .i64 0, .int .i64 0, .int .i64 0, .int .i64 0, .int .i64 0, .int .i64 0, .int .i64 0, .int .i64 0, .int .i64 0, .int .i64 0, .int .i64 0, .int .i64 0, .int .i64 0, .int .i64 0, .int .i64 0, .int .i64 0, .int .i64 0, .int .i64 0, .int .i64 0, .int .i64 0, .int .i64 0] 80 (0, 0)) := alloc_new _ _ _ (by simp)
            refine hK.out _ _ (HSS.out _ hB) (fun hHeld => ?_)
            clear hK K
            try simp only [List.getElem_toArray, List.getElem_cons_succ, List.getElem_cons_zero, put_lit, List.set_cons_zero, List.set_cons_succ]
            refine wpAnyH_ready (rs := [10]) (by kernel_rfl) (by simp) ?_
            refine AllReadyH.cons rfl (fun K hK => ?_) AllReadyH.nil
            clear hHeld
            refine wp_store_row 80 _ _ rfl (v2.heap.size) (matC M) (by simp [Act.eval]) (by simp [Act.eval]) 80 _ h80 (HI9.out _) (by rw [matC_size]; rfl) (matC_one M) ?_
            have hBs := below_setRow hB g80 (matC M)
            refine hK.out _ _ (HSS.out _ hBs) (fun hHeld => ?_)
            clear hK K
            try simp only [List.getElem_toArray, List.getElem_cons_succ, List.getElem_cons_zero, put_lit, List.set_cons_zero, List.set_cons_succ]
            have k80 := setRow_blk (c' := matC M) h80
            have k3 := (setRow_far (c := matC M) (b := wq.heap.size) (g := v2.heap.size) (by omega)).trans h3
            refine wpAnyH_ready (rs := [11]) (by kernel_rfl) (by simp) ?_
            refine AllReadyH.cons rfl (fun K hK => ?_) AllReadyH.nil
            clear hHeld
            have q3 := blk_cell k3 0
            have f3 := blk_free k3 0
            simp only [List.getElem?_toArray, List.getElem?_cons_zero] at q3
            go_simp
            have hBt := hBs.setCell (p := ⟨wq.heap.size, 0, none⟩) g3 (.int .i64 wd)
            refine hK.out _ _ (HSS.out _ hBt) (fun hHeld => ?_)
            clear hK K
            try simp only [List.getElem_toArray, List.getElem_cons_succ, List.getElem_cons_zero, put_lit, List.set_cons_zero, List.set_cons_succ]
            refine wpAnyH_done (by kernel_rfl) ?_ _
            refine NoPanic.normal ?_
            go_wp2_with fail
            go_meet
            exact ⟨v2.heap.size, wq.heap.size, rfl, rfl, (blk_far _ (by omega)).trans k80, blk_cell (blk_set k3 0 _) 0, hBt⟩
        · clear hHeld
          have g80 : wq.heap.size ≤ v1.heap.size := by first | exact hB.size | (have := hB.size; simp at this; omega)
          have gne : wq.heap.size < v1.heap.size := by first | exact lt_of_block h3 | (have := lt_of_block h3; simp at this; omega)
          go_simp
          have hbn : Below (v1).heap.size (v1) ((v1).alloc (.cells #[.int .i64 0, .int .i64 0, .int .i64 0, .int .i64 0, .int .i64 0, .int .i64 0, .int .i64 0, .int .i64 0, .int .i64 0, .int .i64 0, .int .i64 0, .int .i64 0, .int .i64 0, .int .i64 0, .int .i64 0, .int .i64 0, .int .i64 0, .int .i64 0, .int .i64 0, .int .i64 0, .int .i64 0, .int .i64 0, .int .i64 0, .int .i64 0, .int .i64 0] 80)) := (Below.refl _ _).alloc (Nat.le_refl _) _
          replace h3 := (hbn.block _ (lt_of_block h3)).trans h3
          replace hB := hB.trans (hbn.mono hB.size)
          clear hbn
          have h80 : (((v1).alloc (.cells #[.int .i64 0, .int .i64 0, .int .i64 0, .int .i64 0, .int .i64 0, .int .i64 0, .int .i64 0, .int .i64 0, .int .i64 0, .int .i64 0, .int .i64 0, .int .i64 0, .int .i64 0, .int .i64 0, .int .i64 0, .int .i64 0, .int .i64 0, .int .i64 0, .int .i64 0, .int .i64 0, .int .i64 0, .int .i64 0, .int .i64 0, .int .i64 0, .int .i64 0] 80))).heap[v1.heap.size]? = some (.cells #[.int .i64 0, .int .i64 0, .int .i64 0, .int .i64 0, .int .i64 0, .int .i64 0, .int .i64 0, .int .i64 0, .int .i64 0, .int .i64 0, .int .i64 0, .int .i64 0, .int .i64 0, .int .i64 0, .int .i64 0, .int .i64 0, .int .i64 0, .int .i64 0, .int .i64 0, .int .i64 0, .int .i64 0, .int .i64 0, .int .i64 0, .int .i64 0, .int .i64 0] 80 (0, 0)) := alloc_new _ _ _ (by simp)
          refine hK.out _ _ (HSS.out _ hB) (fun hHeld => ?_)
          clear hK K
          try simp only [List.getElem_toArray, List.getElem_cons_succ, List.getElem_cons_zero, put_lit, List.set_cons_zero, List.set_cons_succ]
          refine wpAnyH_ready (rs := [3]) (by kernel_rfl) (by simp) ?_
          refine AllReadyH.cons rfl (fun K hK => ?_) AllReadyH.nil
          · clear hHeld
            go_simp
            refine (HWD.out _ hB).mono ?_
            rintro e v2 ⟨rfl, hbn⟩
            try go_wp2_with fail
            replace h3 := (hbn.block _ (lt_of_block h3)).trans h3
            replace h80 := (hbn.block _ (lt_of_block h80)).trans h80
            replace hB := hB.trans (hbn.mono hB.size)
            clear hbn
            refine hK.out _ _ (HSS.out _ hB) (fun hHeld => ?_)
            clear hK K
            try simp only [List.getElem_toArray, List.getElem_cons_succ, List.getElem_cons_zero, put_lit, List.set_cons_zero, List.set_cons_succ]
            refine wpAnyH_take (i := 5) (v := RR) rfl (by kernel_rfl) (by kernel_rfl) (by kernel_rfl) (fun _ _ _ h => h) (Or.inl ⟨by rfl, ?_⟩) hHeld ?_
            · (intro w' hSw; obtain ⟨y1, y2, y3⟩ := hSw; go_simp)
            try simp only [List.getElem_toArray, List.getElem_cons_succ, List.getElem_cons_zero, put_lit, List.set_cons_zero, List.set_cons_succ]
            refine wpAnyH_take (i := 7) (v := .int .i64 wd) rfl (by kernel_rfl) (by kernel_rfl) (by kernel_rfl) (fun _ _ _ h => h) (Or.inl ⟨by rfl, ?_⟩) hHeld ?_
            · (intro w' hSw; obtain ⟨y1, y2, y3⟩ := hSw; go_simp)
            try simp only [List.getElem_toArray, List.getElem_cons_succ, List.getElem_cons_zero, put_lit, List.set_cons_zero, List.set_cons_succ]
            refine wpAnyH_ready (rs := [10]) (by kernel_rfl) (by simp) ?_
            refine AllReadyH.cons rfl (fun K hK => ?_) AllReadyH.nil
            clear hHeld
            refine wp_store_row 80 _ _ rfl (v1.heap.size) (matC M) (by simp [Act.eval]) (by simp [Act.eval]) 80 _ h80 (HI9.out _) (by rw [matC_size]; rfl) (matC_one M) ?_
            have hBs := below_setRow hB g80 (matC M)
            refine hK.out _ _ (HSS.out _ hBs) (fun hHeld => ?_)
            clear hK K
            try simp only [List.getElem_toArray, List.getElem_cons_succ, List.getElem_cons_zero, put_lit, List.set_cons_zero, List.set_cons_succ]
            have k80 := setRow_blk (c' := matC M) h80
            have k3 := (setRow_far (c := matC M) (b := wq.heap.size) (g := v1.heap.size) (by omega)).trans h3
            refine wpAnyH_ready (rs := [11]) (by kernel_rfl) (by simp) ?_
            refine AllReadyH.cons rfl (fun K hK => ?_) AllReadyH.nil
            clear hHeld
            have q3 := blk_cell k3 0
            have f3 := blk_free k3 0
            simp only [List.getElem?_toArray, List.getElem?_cons_zero] at q3
            go_simp
            have hBt := hBs.setCell (p := ⟨wq.heap.size, 0, none⟩) g3 (.int .i64 wd)
            refine hK.out _ _ (HSS.out _ hBt) (fun hHeld => ?_)
            clear hK K
            try simp only [List.getElem_toArray, List.getElem_cons_succ, List.getElem_cons_zero, put_lit, List.set_cons_zero, List.set_cons_succ]
            refine wpAnyH_done (by kernel_rfl) ?_ _
            refine NoPanic.normal ?_
            go_wp2_with fail
            go_meet
            exact ⟨v1.heap.size, wq.heap.size, rfl, rfl, (blk_far _ (by omega)).trans k80, blk_cell (blk_set k3 0 _) 0, hBt⟩
      · clear hHeld
        have g80 : wq.heap.size ≤ wq.heap.size + 1 := by first | exact hB.size | (have := hB.size; simp at this; omega)
        have gne : wq.heap.size < wq.heap.size + 1 := by first | exact lt_of_block h3 | (have := lt_of_block h3; simp at this; omega)
        go_simp
        have hbn : Below (((wq.drew).alloc (.cells #[.int .i64 0] 3))).heap.size (((wq.drew).alloc (.cells #[.int .i64 0] 3))) ((((wq.drew).alloc (.cells #[.int .i64 0] 3))).alloc (.cells #[.int .i64 0, .int .i64 0, .int .i64 0, .int .i64 0, .int .i64 0, .int .i64 0, .int .i64 0, .int .i64 0, .int .i64 0, .int .i64 0, .int .i64 0, .int .i64 0, .int .i64 0, .int .i64 0, .int .i64 0, .int .i64 0, .int .i64 0, .int .i64 0, .int .i64 0, .int .i64 0, .int .i64 0, .int .i64 0, .int .i64 0, .int .i64 0, .int .i64 0] 80)) := (Below.refl _ _).alloc (Nat.le_refl _) _
        replace h3 := (hbn.block _ (lt_of_block h3)).trans h3
        replace hB := hB.trans (hbn.mono hB.size)
        clear hbn
        have h80 : (((((wq.drew).alloc (.cells #[.int .i64 0] 3))).alloc (.cells #[.int .i64 0, .int .i64 0, .int .i64 0, .int .i64 0, .int .i64 0, .int .i64 0, .int .i64 0, .int .i64 0, .int .i64 0, .int .i64 0, .int .i64 0, .int .i64 0, .int .i64 0, .int .i64 0, .int .i64 0, .int .i64 0, .int .i64 0, .int .i64 0, .int .i64 0, .int .i64 0, .int .i64 0, .int .i64 0, .int .i64 0, .int .i64 0, .int .i64 0] 80))).heap[wq.heap.size + 1]? = some (.cells #[.int .i64 0, .int .i64 0, .int .i64 0, .int .i64 0, .int .i64 0, .int .i64 0, .int .i64 0, .int .i64 0, .int .i64 0, .int .i64 0, .int .i64 0, .int .i64 0, .int .i64 0, .int .i64 0, .int .i64 0, .int .i64 0, .int .i64 0, .int .i64 0, .int .i64 0, .int .i64 0, .int .i64 0, .int .i64 0, .int .i64 0, .int .i64 0, .int .i64 0] 80 (0, 0)) := alloc_new _ _ _ (by simp)
        refine hK.out _ _ (HSS.out _ hB) (fun hHeld => ?_)
        clear hK K
        try simp only [List.getElem_toArray, List.getElem_cons_succ, List.getElem_cons_zero, put_lit, List.set_cons_zero, List.set_cons_succ]
        refine wpAnyH_ready (rs := [1]) (by kernel_rfl) (by simp) ?_
        refine AllReadyH.cons rfl (fun K hK => ?_) AllReadyH.nil
        · clear hHeld
          go_simp
          refine (HMG.out _ hB).mono ?_
          rintro e v1 ⟨rfl, hbn⟩
          try go_wp2_with fail
          replace h3 := (hbn.block _ (lt_of_block h3)).trans h3
          replace h80 := (hbn.block _ (lt_of_block h80)).trans h80
          replace hB := hB.trans (hbn.mono hB.size)
          clear hbn
          refine hK.out _ _ (HSS.out _ hB) (fun hHeld => ?_)
          clear hK K
          try simp only [List.getElem_toArray, List.getElem_cons_succ, List.getElem_cons_zero, put_lit, List.set_cons_zero, List.set_cons_succ]
          refine wpAnyH_ready (rs := [3]) (by kernel_rfl) (by simp) ?_
          refine AllReadyH.cons rfl (fun K hK => ?_) AllReadyH.nil
          · clear hHeld
            go_simp
            refine (HWD.out _ hB).mono ?_
            rintro e v2 ⟨rfl, hbn⟩
            try go_wp2_with fail
            replace h3 := (hbn.block _ (lt_of_block h3)).trans h3
            replace h80 := (hbn.block _ (lt_of_block h80)).trans h80
            replace hB := hB.trans (hbn.mono hB.size)
            clear hbn
            refine hK.out _ _ (HSS.out _ hB) (fun hHeld => ?_)
            clear hK K
            try simp only [List.getElem_toArray, List.getElem_cons_succ, List.getElem_cons_zero, put_lit, List.set_cons_zero, List.set_cons_succ]
            refine wpAnyH_take (i := 5) (v := RR) rfl (by kernel_rfl) (by kernel_rfl) (by kernel_rfl) (fun _ _ _ h => h) (Or.inl ⟨by rfl, ?_⟩) hHeld ?_
            · (intro w' hSw; obtain ⟨y1, y2, y3⟩ := hSw; go_simp)
            try simp only [List.getElem_toArray, List.getElem_cons_succ, List.getElem_cons_zero, put_lit, List.set_cons_zero, List.set_cons_succ]
            refine wpAnyH_take (i := 7) (v := .int .i64 wd) rfl (by kernel_rfl) (by kernel_rfl) (by kernel_rfl) (fun _ _ _ h => h) (Or.inl ⟨by rfl, ?_⟩) hHeld ?_
            · (intro w' hSw; obtain ⟨y1, y2, y3⟩ := hSw; go_simp)
            try simp only [List.getElem_toArray, List.getElem_cons_succ, List.getElem_cons_zero, put_lit, List.set_cons_zero, List.set_cons_succ]
            refine wpAnyH_ready (rs := [10]) (by kernel_rfl) (by simp) ?_
            refine AllReadyH.cons rfl (fun K hK => ?_) AllReadyH.nil
            clear hHeld
            refine wp_store_row 80 _ _ rfl (wq.heap.size + 1) (matC M) (by simp [Act.eval]) (by simp [Act.eval]) 80 _ h80 (HI9.out _) (by rw [matC_size]; rfl) (matC_one M) ?_
            have hBs := below_setRow hB g80 (matC M)
            refine hK.out _ _ (HSS.out _ hBs) (fun hHeld => ?_)
            clear hK K
            try simp only [List.getElem_toArray, List.getElem_cons_succ, List.getElem_cons_zero, put_lit, List.set_cons_zero, List.set_cons_succ]
            have k80 := setRow_blk (c' := matC M) h80
            have k3 := (setRow_far (c := matC M) (b := wq.heap.size) (g := wq.heap.size + 1) (by omega)).trans h3
            refine wpAnyH_ready (rs := [11]) (by kernel_rfl) (by simp) ?_
            refine AllReadyH.cons rfl (fun K hK => ?_) AllReadyH.nil
            clear hHeld
            have q3 := blk_cell k3 0
            have f3 := blk_free k3 0
            simp only [List.getElem?_toArray, List.getElem?_cons_zero] at q3
            go_simp
            have hBt := hBs.setCell (p := ⟨wq.heap.size, 0, none⟩) g3 (.int .i64 wd)
            refine hK.out _ _ (HSS.out _ hBt) (fun hHeld => ?_)
            clear hK K
            try simp only [List.getElem_toArray, List.getElem_cons_succ, List.getElem_cons_zero, put_lit, List.set_cons_zero, List.set_cons_succ]
            refine wpAnyH_done (by kernel_rfl) ?_ _
            refine NoPanic.normal ?_
            go_wp2_with fail
            go_meet
            exact ⟨wq.heap.size + 1, wq.heap.size, rfl, rfl, (blk_far _ (by omega)).trans k80, blk_cell (blk_set k3 0 _) 0, hBt⟩
  case rest =>
    obtain ⟨pm, pw, rfl, rfl, hpm, hpw, hb1⟩ := hcut
    have hmf : ∀ (fn : Fn) (first cap : Array Value) (w : World), (Instr.makeFunc fn first cap).run Try.prog w = .ok (.func fn first cap) w := fun _ _ _ _ => rfl
    have hq := fun (w : World) (a : Option Addr) (l c : Nat) => Go.run_neq_slice_nil (P := Try.prog) w 23 _ a l c Try.underlying23
    obtain ⟨pg, hpg⟩ : ∃ pg, pg = wc.heap.size := ⟨_, rfl⟩
    obtain ⟨wf, hwf⟩ : ∃ wf : World, wf = wc.alloc (.cells #[.func (.func 74) #[] #[.pointer (some ⟨wp0.heap.size, 0, none⟩), .pointer (some ⟨wp0.heap.size + 1, 0, none⟩), .pointer (some ⟨pm, 0, none⟩), .pointer (some ⟨pw, 0, none⟩), .pointer (some ⟨pg, 0, none⟩)]] 85) := ⟨_, rfl⟩
    have hbf : Below wc.heap.size wc wf := by rw [hwf]; exact (Below.refl _ _).alloc (Nat.le_refl _) _
    have hs1 := hb1.size
    have hbqf : Below wq.heap.size wq wf := hb1.trans (hbf.mono hs1)
    obtain ⟨z1, z0, -⟩ := HSS.out wf hbqf
    have hPM : PMem wf wp0.heap.size (wp0.heap.size + 1) pm pw pg c wd A v cc M := ⟨z0, z1, (hbf.block _ (lt_of_block hpm)).trans hpm, (hbf.cell (p := ⟨pw, 0, none⟩) (cell_lt hpw)).trans hpw, by rw [hwf, hpg, World.cell?_alloc_at _ _ _ _ rfl]; rfl⟩
    have HPM := hide hPM
    have HBF := hide (HBQ.out.trans (hbqf.mono hsq))
    have HWF := hide hwf
    have HPG := hide hpg
    clear hpm hpw hb1 hbf hbqf z0 z1 hPM hwf hpg HSS HMG HWD
    go_wp2_with fail
    rw [← HPG.out, ← HWF.out]
    go_loopw [12] (fun i wr => ∃ k : Nat, 2 ≤ k ∧ k ≤ L ∧ i = .int .i64 k ∧ Below wf.heap.size wf wr) (fun i _ => L + 1 - (intOf i).toNat)
    case atStart => exact ⟨2, Nat.le_refl _, hL2, rfl, Below.refl _ _⟩
    case round =>
      obtain ⟨k, hk2, hkL, rfl, hbel⟩ := hrel
      have hszf := HBF.out.size
      have hszr := hbel.size
      have hbw : Below W2.heap.size W2 wr := HBF.out.trans (hbel.mono hszf)
      have hba : Below wr.heap.size wr (wr.alloc (.cells #[.int .i64 (a : Nat)] 3)) := (Below.refl _ _).alloc (Nat.le_refl _) _
      have HGC := hide (HGR.out M wd pm pw pg (some ⟨wr.heap.size, 0, none⟩) 1 k (wr.alloc (.cells #[.int .i64 (a : Nat)] 3)) (by omega) (by omega) (Nat.le_refl _) ((ints_cell wr a).more (by simp)) (hbw.trans (hba.mono hbw.size)) (HPM.out.next (hbel.trans (hba.mono hszr))))
      have zg := (HPM.out.next hbel).qg
      have HBE := hide hbel
      have HBA := hide hba
      clear hbel hbw hba
      by_cases hlt : k < L
      · rw [HNO.out k hk2 hlt] at HGC
        go_wp2_with ((with_reducible show wpList _ _ _ (⟨some 58, _, _, _, _, _⟩ :: _) _ _); refine wpList_callv2 74 #[.pointer (some ⟨wp0.heap.size, 0, none⟩), .pointer (some ⟨wp0.heap.size + 1, 0, none⟩), .pointer (some ⟨pm, 0, none⟩), .pointer (some ⟨pw, 0, none⟩), .pointer (some ⟨pg, 0, none⟩)] _ _ _ (.slice (some ⟨wr.heap.size, 0, none⟩) 1 1) (.int .i64 (k : Nat)) _ rfl rfl rfl rfl rfl goes_grow ((HGC.out).mono ?_); rintro e w5 ⟨u, rfl, hu, hb5⟩; refine ⟨_, rfl, ?_⟩; have HB5 := hide hb5; clear hb5; obtain rfl : u = .slice none 0 0 := hu)
        go_roundw
        case rel => exact ⟨k + 1, by omega, by omega, by go_num, HBE.out.trans ((HBA.out.trans (HB5.out.mono HBA.out.size)).mono hszr)⟩
        case measure => simp [intOf]; omega
      · obtain rfl : k = L := by omega
        rw [HL.out] at HGC
        go_wp2_with ((with_reducible show wpList _ _ _ (⟨some 58, _, _, _, _, _⟩ :: _) _ _); refine wpList_callv2 74 #[.pointer (some ⟨wp0.heap.size, 0, none⟩), .pointer (some ⟨wp0.heap.size + 1, 0, none⟩), .pointer (some ⟨pm, 0, none⟩), .pointer (some ⟨pw, 0, none⟩), .pointer (some ⟨pg, 0, none⟩)] _ _ _ (.slice (some ⟨wr.heap.size, 0, none⟩) 1 1) (.int .i64 (k : Nat)) _ rfl rfl rfl rfl rfl goes_grow ((HGC.out).mono ?_); rintro e w5 ⟨u, rfl, hu, hb5⟩; refine ⟨_, rfl, ?_⟩; have HB5 := hide hb5; clear hb5; obtain ⟨X9, c9, rfl, hc9, hI9⟩ := hu; have HI9' := hide hI9; clear hI9)
        go_ret2
        have h1 := HBE.out.trans ((HBA.out.trans (HB5.out.mono HBA.out.size)).mono hszr)
        have h2 := HBF.out.trans (h1.mono hszf)
        exact ⟨X9, c9, rfl, hc9, HI9'.out, HB2.out.trans (h2.mono HB2.out.size)⟩
end Go.Proofs.Ytejijddfepgnkaa
