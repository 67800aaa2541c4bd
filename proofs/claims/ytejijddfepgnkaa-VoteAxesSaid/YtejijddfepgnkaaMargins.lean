/-
  vote: ballots.margins.
-/
import Derived.Test.YtejijddfepgnkaaMarginPlain
import Derived.Test.YtejijddfepgnkaaInfo
import Derived.Deep.WholeRow
import Derived.WalkSpells
import Derived.Deep.DeepCutAuto
import Derived.BigQuiet
import Derived.Deep.RegionHeld3
namespace Go.Proofs.Ytejijddfepgnkaa
open Go.RowKit
set_option linter.unusedVariables false
set_option linter.unusedSimpArgs false

theorem slice_rest (A : Option Addr) (n c j : Nat) (hj : j ≤ n) (hnc : n ≤ c) : ∃ A2, (∀ w, (Instr.slice 23 (.slice A n c) (some (.int .i64 j)) none none).run Try.prog w = .ok (.slice A2 (n - j) (c - j)) w) ∧
    ∀ (w : World) B (l : List Int), l.length = n → IntsA w B A l → IntsA w B A2 (l.drop j) := by
  have ht : Try.prog.underlying 23 = some (.slice (Try.prog.elem 23)) := by kernel_rfl
  by_cases h : c = j
  · refine ⟨A, fun w => ?_, fun w B l hl hI => ?_⟩
    · have hz : (sizeOf (Try.prog.elem 23)).run Try.prog w = .ok 1 w := by kernel_rfl
      rw [run_slice_l (ht := ht) (h0 := by omega) (h1 := by omega)]
      simp only [Result.andThen, hz]
      unfold sliced
      simp only [Int.toNat_natCast]
      rw [if_pos (by omega)]
    · have : l.drop j = [] := List.drop_eq_nil_of_le (by omega)
      rw [this]; exact IntsA.nil_
  · refine ⟨A.map (·.add (j * 1)), fun w => ?_, fun w B l hl hI => ?_⟩
    · have hz : (sizeOf (Try.prog.elem 23)).run Try.prog w = .ok 1 w := by kernel_rfl
      rw [run_slice_l (ht := ht) (h0 := by omega) (h1 := by omega)]
      simp only [Result.andThen, hz]
      unfold sliced
      simp only [Int.toNat_natCast]
      rw [if_neg (by omega)]
    · intro k hk
      rw [List.length_drop] at hk
      obtain ⟨b, o, e, hb, hc⟩ := hI (j + k) (by omega)
      subst e
      refine ⟨b, o + j, by simp [Addr.add], hb, ?_⟩
      rw [show o + j + k = o + (j + k) by omega, hc]
      simp [List.getD_eq_getElem?_getD]

/-- A whole array out of its block, and into it, as the walk meets them. -/
theorem setRow_blk {w : World} {g : Nat} {c c' : Array Value} {t : TypeId} (hg : w.heap[g]? = some (.cells c t (0, 0))) : (w.setRow g c').heap[g]? = some (.cells c' t (0, 0)) := by
  simp only [World.setRow, Array.getElem?_modify, hg]
  simp
theorem below_setRow {B : Nat} {a w : World} {g : Nat} (h : Below B a w) (hg : B ≤ g) (c : Array Value) : Below B a (w.setRow g c) :=
  ⟨h.os, h.tape, h.output, by have := h.size; simpa [World.setRow] using this, fun k hk => by
    rw [← h.block k hk]
    simp only [World.setRow, Array.getElem?_modify]
    rw [if_neg (by omega)]⟩

/-- The two variables of margins. -/
structure MMem (w wr : World) (M : Mat) : Prop where
  res : wr.heap[w.heap.size]? = some (.cells (matC fun _ _ => 0) 80 (0, 0))
  mat : wr.heap[w.heap.size + 1]? = some (.cells (matC M) 80 (0, 0))
  bel : Below w.heap.size w wr
theorem MMem.step {w wr : World} {M : Mat} (h : MMem w wr M) {x y : Nat} (hx : x < 5) (hy : y < 5) (z : Int) : MMem w (wr.setCell ⟨w.heap.size + 1, x * 5 + y, none⟩ (.int .i64 z)) (fun a b => if a = x ∧ b = y then z else M a b) :=
  ⟨(blk_far _ (by omega)).trans h.res, by rw [← matC_set M hx hy]; exact blk_set h.mat _ _, h.bel.setCell (by show w.heap.size ≤ w.heap.size + 1; omega) _⟩
theorem MMem.drew {w wr : World} {M : Mat} (h : MMem w wr M) : MMem w wr.drew M := ⟨h.res, h.mat, h.bel.drew⟩

theorem mstep_eq {x y : Nat} (M : Mat) (h : y ≠ x) : mstep x M y = fun a b => if a = y ∧ b = x then M y x - 1 else if a = x ∧ b = y then M x y + 1 else M a b := by
  funext a b
  unfold mstep
  by_cases h1 : a = y ∧ b = x
  · obtain ⟨rfl, rfl⟩ := h1
    simp [h]
  · rw [if_neg h1, if_neg h1]
    by_cases h2 : a = x ∧ b = y
    · rw [if_pos h2, if_pos h2, h2.1, h2.2]
    · rw [if_neg h2, if_neg h2]
theorem mstep_bound {x y : Nat} {M : Mat} {N : Int} (h : y ≠ x) (hB : ∀ a b, -N ≤ M a b ∧ M a b ≤ N) : ∀ a b, -(N + 1) ≤ mstep x M y a b ∧ mstep x M y a b ≤ N + 1 := by
  intro a b
  rw [mstep_eq M h]
  dsimp only
  have h1 := hB y x
  have h2 := hB x y
  have h3 := hB a b
  split
  · omega
  · split <;> omega

set_option maxRecDepth 100000 in
set_option maxHeartbeats 3200000 in
theorem margins_any (A : Option Addr) (v n c : Nat) (W : List (List Nat)) (w : World) (hW : BOk W v n) (hA : RowsA w w.heap.size A (upp W)) :
    Calls Try.prog 69 #[.slice A v c] w fun e w' => e = .returned (.agg (matC (margM W))) ∧ Below w.heap.size w w' := by
  have h9 := hW.le
  have hn5 := hW.nle
  have HW := hide hW
  have HA := hide hA
  obtain ⟨w2, hw2⟩ : ∃ w2, w2 = (w.alloc (.cells (matC fun _ _ => 0) 80)).alloc (.cells (matC fun _ _ => 0) 80) := ⟨_, rfl⟩
  have hm0 : MMem w w2 (fun _ _ => 0) := by
    subst hw2
    exact ⟨alloc_old _ _ _ (by simp) (alloc_new _ _ _ rfl), alloc_new _ _ _ (by simp), ((Below.refl _ _).alloc (Nat.le_refl _) _).alloc (by simp) _⟩
  rw [matC_zero] at hw2
  have HM0 := hide hm0
  clear hW hA hm0
  go_enter Try.func69, Try.ntmps69
  go_wp2
  rw [← hw2]
  clear hw2
  go_loopw [12] (fun s wr => ∃ (k : Nat) (M : Mat), k ≤ v ∧ s = .int .i64 k ∧ MMem w wr M ∧ Hid ((W.drop k).foldl ballotM M = margM W) ∧ Hid (∀ a b, -(25 * k : Int) ≤ M a b ∧ M a b ≤ 25 * k)) (fun s _ => v - (intOf s).toNat)
  case atStart => exact ⟨0, _, Nat.zero_le _, rfl, HM0.out, rfl, fun a b => by simp⟩
  case round =>
    obtain ⟨k, M, hk, rfl, hm, HF, HB⟩ := hrel
    by_cases hlt : k < v
    · obtain ⟨b3, o3, A3, n3, c3, rfl, hb3, hc3, hx3, hle3, hI3⟩ := HA.out.at_ (k := k) (by rw [upp_length, HW.out.len]; exact hlt)
      rw [upp_getD] at hI3 hx3
      have hri := HW.out.rows k hlt
      obtain rfl : n = n3 := by have := hx3.out; rw [up_length, hri.len] at this; exact this
      have hfold : (W.drop (k + 1)).foldl ballotM (ballotM M (W.getD k [])) = margM W := by
        have e : W.drop k = W.getD k [] :: W.drop (k + 1) := by
          rw [List.drop_eq_getElem_cons (by rw [HW.out.len]; exact hlt)]
          simp [List.getD_eq_getElem?_getD, show k < W.length by rw [HW.out.len]; exact hlt]
        have := HF.out
        rw [e] at this; exact this
      have HFO := hide hfold
      have HRI := hide hri
      have hc3' := (hm.bel.cell (p := ⟨b3, o3 + k, none⟩) hb3).trans hc3
      generalize W.getD k [] = l at *
      have HM := hide hm
      clear hfold hri hx3 hm hc3
      go_wp2
      go_loopw [18] (fun s wr => ∃ (i : Nat) (M' : Mat), i ≤ n ∧ s = .int .i64 i ∧ MMem w wr M' ∧ Hid (ballotM M' (l.drop i) = ballotM M l) ∧ Hid (∀ a b, -(25 * k + 5 * i : Int) ≤ M' a b ∧ M' a b ≤ 25 * k + 5 * i)) (fun s _ => n - (intOf s).toNat)
      case atStart => exact ⟨0, _, Nat.zero_le _, rfl, HM.out, rfl, fun a b => by have := HB.out a b; omega⟩
      case round =>
        clear HM HB HF hc3'
        obtain ⟨i, M', hi, rfl, hm, HF, HB⟩ := hrel
        by_cases hlti : i < n
        · obtain ⟨b4, o4, x', rfl, hb4, hc4, hx4⟩ := hI3.at_ (k := i) (by rw [up_length, HRI.out.len]; exact hlti)
          rw [up_getD] at hx4
          have e4 := hx4.out
          have hxn := HRI.out.getD_lt hlti
          have hdrop : l.drop i = l.getD i 0 :: l.drop (i + 1) := by
            rw [List.drop_eq_getElem_cons (by rw [HRI.out.len]; exact hlti)]
            simp [List.getD_eq_getElem?_getD, show i < l.length by rw [HRI.out.len]; exact hlti]
          have hf2 : ballotM (rowM M' (l.getD i 0) (l.drop (i + 1))) (l.drop (i + 1)) = ballotM M l := by
            have := HF.out
            rw [hdrop] at this; exact this
          have hnot : ∀ y ∈ l.drop (i + 1), y < n ∧ y ≠ l.getD i 0 := by
            intro y hy
            refine ⟨(HRI.out.mem y).1 (List.mem_of_mem_drop hy), fun e => ?_⟩
            obtain ⟨q, hq, e2⟩ := List.getElem_of_mem hy
            rw [List.getElem_drop] at e2
            rw [List.length_drop, HRI.out.len] at hq
            have := HRI.out.inj (i + 1 + q) i (by omega) hlti (by rw [← e, ← e2]; simp [List.getD_eq_getElem?_getD, show i + 1 + q < l.length by rw [HRI.out.len]; omega])
            omega
          generalize l.getD i 0 = x at *
          subst e4
          obtain ⟨A2, hs2, hI2⟩ := slice_rest (some ⟨b4, o4, none⟩) n c3 (i + 1) (by omega) (by omega)
          have hI5 := hI2 w w.heap.size (up l) (by rw [up_length]; exact HRI.out.len) hI3
          have HI5 : Hid (IntsA w w.heap.size A2 (up (l.drop (i + 1)))) := by show IntsA _ _ _ _; rw [up, List.map_drop]; exact hI5
          have HS2 := hide hs2
          have HFO2 := hide hf2
          have HNO := hide hnot
          have hlr : (l.drop (i + 1)).length = n - (i + 1) := by rw [List.length_drop, HRI.out.len]
          have HLR := hide hlr
          have HM := hide hm
          have hc4' := (hm.bel.cell (p := ⟨b4, o4 + i, none⟩) hb4).trans hc4
          generalize hrest : l.drop (i + 1) = rest at *
          have HREST := hide hrest
          clear hrest
          clear hdrop hx4 hf2 hnot hlr hI2 hI5 hm hc4 hs2
          have hs3 := HS2.out
          rw [show ((i + 1 : Nat) : Int) = (i : Int) + 1 by omega] at hs3
          go_wp2
          clear hs3 hc4'
          go_loopw [28] (fun s wr => ∃ (j : Nat) (M2 : Mat), j ≤ n - (i + 1) ∧ s = .int .i64 j ∧ MMem w wr M2 ∧ Hid (rowM M2 x (rest.drop j) = rowM M' x rest) ∧ Hid (∀ a b, -(25 * k + 5 * i + j : Int) ≤ M2 a b ∧ M2 a b ≤ 25 * k + 5 * i + j)) (fun s _ => n - (i + 1) - (intOf s).toNat)
          case atStart => exact ⟨0, _, Nat.zero_le _, rfl, HM.out, rfl, fun a b => by have := HB.out a b; omega⟩
          case round =>
            clear HM HB HF
            obtain ⟨j, M2, hj, rfl, hm, HF, HB⟩ := hrel
            by_cases hltj : j < n - (i + 1)
            · obtain ⟨b5, o5, y', rfl, hb5, hc5, hx5⟩ := HI5.out.at_ (k := j) (by rw [up_length, HLR.out]; exact hltj)
              rw [up_getD] at hx5
              have e5 := hx5.out
              have hdrop : rest.drop j = rest.getD j 0 :: rest.drop (j + 1) := by
                rw [List.drop_eq_getElem_cons (by rw [HLR.out]; exact hltj)]
                simp [List.getD_eq_getElem?_getD, show j < rest.length by rw [HLR.out]; exact hltj]
              have hf3 : rowM (mstep x M2 (rest.getD j 0)) x (rest.drop (j + 1)) = rowM M' x rest := by
                have := HF.out
                rw [hdrop] at this; exact this
              obtain ⟨hyn, hyx⟩ := HNO.out (rest.getD j 0) (getD_mem (by rw [HLR.out]; exact hltj))
              generalize rest.getD j 0 = y at *
              subst e5
              have hc5' := (hm.bel.cell (p := ⟨b5, o5 + j, none⟩) hb5).trans hc5
              have hB := HB.out
              have HF3 := hide hf3
              have b1 := hB x y
              have b2 := hB y x
              have HBB := hide hB
              have hx5' : x < 5 := by omega
              have hy5' : y < 5 := by omega
              have q1 : wr.cell? ⟨w.heap.size + 1, x * 5 + y, none⟩ = some (.int .i64 (M2 x y)) := (blk_cell hm.mat _).trans (matC_at M2 hx5' hy5')
              have hm2 := hm.drew.step hx5' hy5' (M2 x y + 1)
              have hm2a := hm.step hx5' hy5' (M2 x y + 1)
              have q2 : (wr.setCell ⟨w.heap.size + 1, x * 5 + y, none⟩ (.int .i64 (M2 x y + 1))).cell? ⟨w.heap.size + 1, y * 5 + x, none⟩ = some (.int .i64 (M2 y x)) := by
                rw [blk_cell hm2a.mat, matC_at _ hy5' hx5', if_neg (by omega)]
              have k1 := blk_free hm.mat
              have k2 := blk_free hm2a.mat
              have hm3 := hm2.drew.step hy5' hx5' (M2 y x - 1)
              rw [← mstep_eq M2 hyx] at hm3
              have HBN := hide (mstep_bound hyx hB)
              have HM3 := hide hm3
              have w1 : IntKind.i64.wrap (M2 x y + 1) = M2 x y + 1 := by rw [IntKind.wrap_i64]; omega
              have w2 : IntKind.i64.wrap (M2 y x - 1) = M2 y x - 1 := by rw [IntKind.wrap_i64]; omega
              have i1 : (x : Int) < 5 := by omega
              have i2 : (y : Int) < 5 := by omega
              clear hdrop hf3 hx5 hB hm hm2 hm2a hm3 hc5 HF HB
              go_upto_region 11 with (fail)
              refine wp_region_noPanic ?_
              refine wp_region_held_drew (S := (fun _ => True)) (by kernel_rfl) trivial (fun hHeld => ?_)
              show wpAnyH _ _ _ _ _ _ (#[false, false, false, false, false, false, false, false, false] : Array Bool) _ _
              refine wpAnyH_take (i := 0) (v := .int .i64 x) rfl (by kernel_rfl) (by kernel_rfl) (by kernel_rfl) (fun _ _ _ h => h) (Or.inl ⟨by rfl, ?_⟩) hHeld ?_
              · (intro w' hSw; obtain ⟨⟩ := hSw; go_simp)
              try simp only [Act.put, List.setIfInBounds_toArray, List.set_cons_zero, List.set_cons_succ]
              refine wpAnyH_take (i := 1) (v := .int .i64 y) rfl (by kernel_rfl) (by kernel_rfl) (by kernel_rfl) (fun _ _ _ h => h) (Or.inl ⟨by rfl, ?_⟩) hHeld ?_
              · (intro w' hSw; obtain ⟨⟩ := hSw; go_simp)
              try simp only [Act.put, List.setIfInBounds_toArray, List.set_cons_zero, List.set_cons_succ]
              refine wpAnyH_take (i := 2) (v := .pointer (some ⟨w.heap.size + 1, x * 5, none⟩)) rfl (by kernel_rfl) (by kernel_rfl) (by kernel_rfl) (fun _ _ _ h => h) (Or.inl ⟨by rfl, ?_⟩) hHeld ?_
              · (intro w' hSw; obtain ⟨⟩ := hSw; go_simp)
              try simp only [Act.put, List.setIfInBounds_toArray, List.set_cons_zero, List.set_cons_succ]
              refine wpAnyH_take (i := 3) (v := .pointer (some ⟨w.heap.size + 1, x * 5 + y, none⟩)) rfl (by kernel_rfl) (by kernel_rfl) (by kernel_rfl) (fun _ _ _ h => h) (Or.inl ⟨by rfl, ?_⟩) hHeld ?_
              · (intro w' hSw; obtain ⟨⟩ := hSw; go_simp)
              try simp only [Act.put, List.setIfInBounds_toArray, List.set_cons_zero, List.set_cons_succ]
              refine wpAnyH_take (i := 6) (v := .pointer (some ⟨w.heap.size + 1, x * 5, none⟩)) rfl (by kernel_rfl) (by kernel_rfl) (by kernel_rfl) (fun _ _ _ h => h) (Or.inl ⟨by rfl, ?_⟩) hHeld ?_
              · (intro w' hSw; obtain ⟨⟩ := hSw; go_simp)
              try simp only [Act.put, List.setIfInBounds_toArray, List.set_cons_zero, List.set_cons_succ]
              refine wpAnyH_ready (rs := [4]) (by kernel_rfl) (by simp) ?_
              refine AllReadyH.cons rfl (fun K hK => ?_) AllReadyH.nil
              go_simp
              refine hK.out _ _ trivial (fun hHeld => ?_)
              clear hK K
              try simp only [Act.put, List.setIfInBounds_toArray, List.set_cons_zero, List.set_cons_succ]
              refine wpAnyH_take (i := 5) (v := .int .i64 (M2 x y + 1)) rfl (by kernel_rfl) (by kernel_rfl) (by kernel_rfl) (fun _ _ _ h => h) (Or.inl ⟨by rfl, ?_⟩) hHeld ?_
              · (intro w' hSw; obtain ⟨⟩ := hSw; go_simp)
              try simp only [Act.put, List.setIfInBounds_toArray, List.set_cons_zero, List.set_cons_succ]
              refine wpAnyH_take (i := 7) (v := .pointer (some ⟨w.heap.size + 1, x * 5 + y, none⟩)) rfl (by kernel_rfl) (by kernel_rfl) (by kernel_rfl) (fun _ _ _ h => h) (Or.inl ⟨by rfl, ?_⟩) hHeld ?_
              · (intro w' hSw; obtain ⟨⟩ := hSw; go_simp)
              try simp only [Act.put, List.setIfInBounds_toArray, List.set_cons_zero, List.set_cons_succ]
              refine wpAnyH_ready (rs := [8]) (by kernel_rfl) (by simp) ?_
              refine AllReadyH.cons rfl (fun K hK => ?_) AllReadyH.nil
              go_simp
              refine hK.out _ _ trivial (fun hHeld => ?_)
              clear hK K
              try simp only [Act.put, List.setIfInBounds_toArray, List.set_cons_zero, List.set_cons_succ]
              refine wpAnyH_done (by kernel_rfl) ?_ _
              refine NoPanic.normal ?_
              go_upto_region 12 with (fail)
              refine wp_region_noPanic ?_
              refine wp_region_held_drew (S := (fun _ => True)) (by kernel_rfl) trivial (fun hHeld => ?_)
              show wpAnyH _ _ _ _ _ _ (#[false, false, false, false, false, false, false, false, false] : Array Bool) _ _
              refine wpAnyH_take (i := 0) (v := .int .i64 y) rfl (by kernel_rfl) (by kernel_rfl) (by kernel_rfl) (fun _ _ _ h => h) (Or.inl ⟨by rfl, ?_⟩) hHeld ?_
              · (intro w' hSw; obtain ⟨⟩ := hSw; go_simp)
              try simp only [Act.put, List.setIfInBounds_toArray, List.set_cons_zero, List.set_cons_succ]
              refine wpAnyH_take (i := 1) (v := .int .i64 x) rfl (by kernel_rfl) (by kernel_rfl) (by kernel_rfl) (fun _ _ _ h => h) (Or.inl ⟨by rfl, ?_⟩) hHeld ?_
              · (intro w' hSw; obtain ⟨⟩ := hSw; go_simp)
              try simp only [Act.put, List.setIfInBounds_toArray, List.set_cons_zero, List.set_cons_succ]
              refine wpAnyH_take (i := 2) (v := .pointer (some ⟨w.heap.size + 1, y * 5, none⟩)) rfl (by kernel_rfl) (by kernel_rfl) (by kernel_rfl) (fun _ _ _ h => h) (Or.inl ⟨by rfl, ?_⟩) hHeld ?_
              · (intro w' hSw; obtain ⟨⟩ := hSw; go_simp)
              try simp only [Act.put, List.setIfInBounds_toArray, List.set_cons_zero, List.set_cons_succ]
              refine wpAnyH_take (i := 3) (v := .pointer (some ⟨w.heap.size + 1, y * 5 + x, none⟩)) rfl (by kernel_rfl) (by kernel_rfl) (by kernel_rfl) (fun _ _ _ h => h) (Or.inl ⟨by rfl, ?_⟩) hHeld ?_
              · (intro w' hSw; obtain ⟨⟩ := hSw; go_simp)
              try simp only [Act.put, List.setIfInBounds_toArray, List.set_cons_zero, List.set_cons_succ]
              refine wpAnyH_take (i := 6) (v := .pointer (some ⟨w.heap.size + 1, y * 5, none⟩)) rfl (by kernel_rfl) (by kernel_rfl) (by kernel_rfl) (fun _ _ _ h => h) (Or.inl ⟨by rfl, ?_⟩) hHeld ?_
              · (intro w' hSw; obtain ⟨⟩ := hSw; go_simp)
              try simp only [Act.put, List.setIfInBounds_toArray, List.set_cons_zero, List.set_cons_succ]
              refine wpAnyH_ready (rs := [4]) (by kernel_rfl) (by simp) ?_
              refine AllReadyH.cons rfl (fun K hK => ?_) AllReadyH.nil
              go_simp
              refine hK.out _ _ trivial (fun hHeld => ?_)
              clear hK K
              try simp only [Act.put, List.setIfInBounds_toArray, List.set_cons_zero, List.set_cons_succ]
              refine wpAnyH_take (i := 5) (v := .int .i64 (M2 y x - 1)) rfl (by kernel_rfl) (by kernel_rfl) (by kernel_rfl) (fun _ _ _ h => h) (Or.inl ⟨by rfl, ?_⟩) hHeld ?_
              · (intro w' hSw; obtain ⟨⟩ := hSw; go_simp)
              try simp only [Act.put, List.setIfInBounds_toArray, List.set_cons_zero, List.set_cons_succ]
              refine wpAnyH_take (i := 7) (v := .pointer (some ⟨w.heap.size + 1, y * 5 + x, none⟩)) rfl (by kernel_rfl) (by kernel_rfl) (by kernel_rfl) (fun _ _ _ h => h) (Or.inl ⟨by rfl, ?_⟩) hHeld ?_
              · (intro w' hSw; obtain ⟨⟩ := hSw; go_simp)
              try simp only [Act.put, List.setIfInBounds_toArray, List.set_cons_zero, List.set_cons_succ]
              refine wpAnyH_ready (rs := [8]) (by kernel_rfl) (by simp) ?_
              refine AllReadyH.cons rfl (fun K hK => ?_) AllReadyH.nil
              go_simp
              refine hK.out _ _ trivial (fun hHeld => ?_)
              clear hK K
              try simp only [Act.put, List.setIfInBounds_toArray, List.set_cons_zero, List.set_cons_succ]
              refine wpAnyH_done (by kernel_rfl) ?_ _
              refine NoPanic.normal ?_
              clear q1 q2 k1 k2 w1 w2 b1 b2
              go_wp2_with fail
              go_roundw
              case rel => exact ⟨j + 1, _, by omega, by go_num, HM3.out, HF3.out, fun a b => by have := HBN.out a b; omega⟩
              case measure => simp [intOf] <;> omega
            · obtain rfl : j = n - (i + 1) := by omega
              have hfin : rowM M' x rest = M2 := by
                have := HF.out
                rw [List.drop_eq_nil_of_le (by rw [HLR.out]; exact Nat.le_refl _)] at this; exact this.symm
              have HFIN := hide hfin
              have HM := hide hm
              clear hm hfin HF
              go_wp2
              go_roundw
              case rel => exact ⟨i + 1, _, by omega, by go_num, HM.out, by have h := HFO2.out; rw [HFIN.out, ← HREST.out] at h; exact h, fun a b => by have := HB.out a b; omega⟩
              case measure => simp [intOf] <;> omega
        · obtain rfl : n = i := by omega
          have hfin : ballotM M l = M' := by
            have := HF.out
            rw [List.drop_eq_nil_of_le (by rw [HRI.out.len]; exact Nat.le_refl _)] at this; exact this.symm
          have HFIN := hide hfin
          have HM := hide hm
          clear hm hfin HF
          go_wp2
          go_roundw
          case rel => exact ⟨k + 1, _, by omega, by go_num, HM.out, by have h := HFO.out; rw [HFIN.out] at h; exact h, fun a b => by have := HB.out a b; omega⟩
          case measure => simp [intOf] <;> omega
    · obtain rfl : v = k := by omega
      have hfin : margM W = M := by
        have := HF.out
        rw [List.drop_eq_nil_of_le (by rw [HW.out.len]; exact Nat.le_refl _)] at this; exact this.symm
      have HFIN := hide hfin
      have HM := hide hm
      have hu : Try.prog.underlying 80 = some (.array 5 78) := by kernel_rfl
      have hi9 : (Try.prog.info? 80).map (·.size) = some (matC M).size := by rw [matC_size]; kernel_rfl
      have HU := hide hu
      have HI9 := hide hi9
      have hsz : Hid ((matC fun _ _ => 0).size = (matC M).size) := by show _ = _; rw [matC_size, matC_size]
      clear hm hfin HF HB hu hi9
      go_wp2_with (first
        | (with_reducible show wpList _ _ _ (⟨some 51, _, _, _, _, _⟩ :: _) _ _; refine wpList_load_row rfl 80 _ rfl (w.heap.size + 1) rfl _ (matC M) (0, 0) _ HM.out.mat HU.out rfl HI9.out ?_)
        | (with_reducible show wpList _ _ _ (⟨none, _, _, _, _, _⟩ :: _) _ _; refine wpList_store_row rfl 80 _ _ rfl w.heap.size (matC M) rfl rfl _ _ HM.out.res HI9.out hsz.out (matC_one M) ?_))
      (try simp only [Exit.inBlock, Exit.then])
      refine bodyPost_ret (results_cell_row rfl _ _ w.heap.size _ (matC M) _ _ rfl (setRow_blk HM.out.res) HU.out rfl HI9.out) rfl ?_
      exact ⟨by rw [HFIN.out], below_setRow HM.out.bel (Nat.le_refl _) _⟩
end Go.Proofs.Ytejijddfepgnkaa
