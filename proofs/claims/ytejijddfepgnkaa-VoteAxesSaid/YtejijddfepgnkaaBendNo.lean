/-
  vote.Bend: of what is not valid, and where there is an axis.
-/
import Derived.Test.YtejijddfepgnkaaBend
namespace Go.Proofs.Ytejijddfepgnkaa
open Go.RowKit
set_option linter.unusedVariables false
set_option linter.unusedSimpArgs false
attribute [local go_sem] Oper.semAt_some

set_option maxRecDepth 100000 in
set_option maxHeartbeats 3200000 in
theorem Bend_no (A : Option Addr) (v c : Nat) (L : List (List Int)) (w : World) (hn : L.length = v) (hlen : v ≤ 9223372036854775807) (hrow : ∀ l ∈ L, l.length ≤ 9223372036854775807) (hA : RowsA w w.heap.size A L) (hv : votesB L = false) :
    Calls Try.prog 47 #[.slice A v c] w fun e w' => e = .returned (.tuple #[.slice none 0 0, .slice none 0 0, .int .i64 2]) ∧ Below w.heap.size w w' := by
  have HV := hide (fun w' (hw' : Below w.heap.size w w') => by
    have := valid_any A v c w'.heap.size L w' hn hlen hrow (hA.next hw')
    rw [hv] at this
    exact this)
  clear hA hv hrow hn
  refine calls_of_marks Try.func47 rfl ?_
  simp only [Try.ntmps47, List.size_toArray, List.length_cons, List.length_nil, Nat.reduceAdd, Nat.reduceSub, Array.replicate_succ, Array.replicate_zero, List.push_toArray, List.append_toArray, List.nil_append, List.cons_append]
  go_wp2_with fail
  obtain ⟨W1, hW1⟩ : ∃ W1, (((w.alloc (.cells #[.slice none 0 0] 23)).alloc (.cells #[.slice none 0 0] 23)).alloc (.cells #[.int .i64 0] 24)).alloc (.cells #[.slice A v c] 67) = W1 := ⟨_, rfl⟩
  have hb1 : Below w.heap.size w W1 := by subst hW1; exact ((((Below.refl _ _).alloc (Nat.le_refl _) _).alloc (by simp) _).alloc (by simp <;> omega) _).alloc (by simp <;> omega) _
  have hs1 : W1.heap.size = w.heap.size + 4 := by subst hW1; simp
  have p0 : W1.heap[w.heap.size]? = some (.cells #[.slice none 0 0] 23 (0, 0)) := by subst hW1; exact alloc_old _ _ _ (by simp <;> omega) (alloc_old _ _ _ (by simp <;> omega) (alloc_old _ _ _ (by simp) (alloc_new _ _ _ rfl)))
  have p1 : W1.heap[w.heap.size + 1]? = some (.cells #[.slice none 0 0] 23 (0, 0)) := by subst hW1; exact alloc_old _ _ _ (by simp <;> omega) (alloc_old _ _ _ (by simp) (alloc_new _ _ _ (by simp)))
  have p2 : W1.heap[w.heap.size + 1 + 1]? = some (.cells #[.int .i64 0] 24 (0, 0)) := by subst hW1; exact alloc_old _ _ _ (by simp) (alloc_new _ _ _ (by simp))
  have p3 : W1.heap[w.heap.size + 1 + 1 + 1]? = some (.cells #[.slice A v c] 67 (0, 0)) := by subst hW1; exact alloc_new _ _ _ (by simp)
  have hL1 : BdL w A v c [] W1 := ⟨p0, p1, p2, p3, hb1, ⟨List.nodup_nil, fun D hD => nomatch hD⟩⟩
  rw [hW1]
  have HL1 := hide hL1
  clear hW1 hb1 hs1 p0 p1 p2 p3 hL1
  have HB1 := hide HL1.out.bel
  have q3 := blk_cell HL1.out.bb 0
  simp only [List.getElem?_toArray, List.getElem?_cons_zero] at q3
  go_upto_region 3 with (go_at_call 62; refine (HV.out _ HB1.out).mono ?_; rintro e wq ⟨rfl, hb⟩; have HLQ := hide (HL1.out.next hb); clear hb)
  clear q3
  have hL := HLQ.out
  have x1 := blk_cell hL.c1 0
  have x2 := blk_cell hL.c2 0
  have x3 := blk_cell hL.c3 0
  have g1 := blk_free hL.c1 0
  have g2 := blk_free hL.c2 0
  have g3 := blk_free hL.c3 0
  simp only [List.getElem?_toArray, List.getElem?_cons_zero] at x1 x2 x3
  have hn12 : w.heap.size ≠ w.heap.size + 1 := by omega
  have hn13 : w.heap.size ≠ w.heap.size + 1 + 1 := by omega
  have hn23 : w.heap.size + 1 ≠ w.heap.size + 1 + 1 := by omega
  clear hL
  go_wp2_with fail
  have hL := HLQ.out
  obtain ⟨V, hV⟩ : ∃ V, ((wq.setCell ⟨w.heap.size, 0, none⟩ (.slice none 0 0)).setCell ⟨w.heap.size + 1, 0, none⟩ (.slice none 0 0)).setCell ⟨w.heap.size + 1 + 1, 0, none⟩ (.int .i64 2) = V := ⟨_, rfl⟩
  have far : ∀ q, q ≠ w.heap.size → q ≠ w.heap.size + 1 → q ≠ w.heap.size + 1 + 1 → V.heap[q]? = wq.heap[q]? := fun q h1 h2 h3 => by subst hV; exact (blk_far _ h3).trans ((blk_far _ h2).trans (blk_far _ h1))
  have hVs : V.heap.size = wq.heap.size := by subst hV; simp [World.setCell]
  have t1 : V.heap[w.heap.size]? = some (.cells #[.slice none 0 0] 23 (0, 0)) := by subst hV; exact (blk_far _ hn13).trans ((blk_far _ hn12).trans (blk_set hL.c1 0 _))
  have t2 : V.heap[w.heap.size + 1]? = some (.cells #[.slice none 0 0] 23 (0, 0)) := by subst hV; exact (blk_far _ hn23).trans (blk_set ((blk_far _ hn12.symm).trans hL.c2) 0 _)
  have t3 : V.heap[w.heap.size + 1 + 1]? = some (.cells #[.int .i64 2] 24 (0, 0)) := by subst hV; exact blk_set ((blk_far _ hn23.symm).trans ((blk_far _ hn13.symm).trans hL.c3)) 0 _
  have hVO : V.os = wq.os ∧ V.tape = wq.tape ∧ V.output = wq.output := by subst hV; exact ⟨rfl, rfl, rfl⟩
  rw [hV]
  have y1 := blk_cell t1 0
  have y2 := blk_cell t2 0
  have y3 := blk_cell t3 0
  simp only [List.getElem?_toArray, List.getElem?_cons_zero] at y1 y2 y3
  have hb9 := hL.bel
  refine ⟨.tuple #[.slice none 0 0, .slice none 0 0, .int .i64 2], ?_, rfl, ⟨hVO.1.trans hb9.os, hVO.2.1.trans hb9.tape, hVO.2.2.trans hb9.output, by have := hb9.size; omega, fun q hq => (far q (by omega) (by omega) (by omega)).trans (hb9.block q hq)⟩⟩
  rw [results_cells3 rfl]
  clear x1 x2 x3
  go_simp

set_option maxRecDepth 100000 in
set_option maxHeartbeats 3200000 in
theorem Bend_axis (A : Option Addr) (v n c : Nat) (W : List (List Nat)) (o : List Nat) (w : World) (hW : BOk W v n) (hv : votesB (upp W) = true) (hA : RowsA w w.heap.size A (upp W)) (hno : axF W (List.range n) (List.range v) = some o) :
    Calls Try.prog 47 #[.slice A v c] w fun e w' => e = .returned (.tuple #[.slice none 0 0, .slice none 0 0, .int .i64 4]) ∧ Below w.heap.size w w' := by
  have hn5 := hW.nle
  have hn1 := hW.npos
  have hv9 := hW.le
  have hv1 := hW.pos
  have HV := hide (fun w' (hw' : Below w.heap.size w w') => by
    have := valid_any A v c w'.heap.size (upp W) w' (by rw [upp_length, hW.len]) (by omega) (fun l hl => by have := (ordB_iff.1 ((votesB_iff.1 hv).2.2 l hl)).1; have := (votesB_iff.1 hv).2.1; omega) (hA.next hw')
    rw [hv] at this
    exact this)
  have HNA := hide (fun w' (hw' : Below w.heap.size w w') => names_any A v n c w.heap.size W w' hW (hA.below hw'))
  have HU := hide (fun k (hk : k ≤ 60) w' => upTo_any k w' hk)
  have HAX := hide (fun w' (hw' : RowsA w' w'.heap.size A (upp W)) X kn cx Y vn cy (nm vs : List Nat) (h1 : nm.length = kn) (h2 : 1 ≤ kn) (h3 : kn ≤ 60) (h4 : IntsA w' w'.heap.size X (up nm)) (h5 : vs.length = vn) (h6 : vn ≤ 60) (h7 : ∀ i, i < vn → vs.getD i 0 < v) (h8 : IntsA w' w'.heap.size Y (up vs)) =>
    axis_any A v n c X kn cx Y vn cy W nm vs w' hW hw' h1 h2 h3 h4 h5 h6 h7 h8)
  have HRV : Hid (∀ i, i < v → (List.range v).getD i 0 < v) := fun i hi => by rw [List.getD_eq_getElem?_getD, List.getElem?_range hi]; exact hi
  have hqe := fun (w : World) (a : Option Addr) (n c n' c' : Nat) => Lib.run_eql_slice_nil (P := Try.prog) w 23 _ a n c n' c' Try.underlying23
  have hqn := fun (w : World) (a : Option Addr) (l c : Nat) => Go.run_neq_slice_nil (P := Try.prog) w 23 _ a l c Try.underlying23
  have HNO := hide hno
  have HA := hide hA
  clear hA hW hv hno
  refine calls_of_marks Try.func47 rfl ?_
  simp only [Try.ntmps47, List.size_toArray, List.length_cons, List.length_nil, Nat.reduceAdd, Nat.reduceSub, Array.replicate_succ, Array.replicate_zero, List.push_toArray, List.append_toArray, List.nil_append, List.cons_append]
  go_wp2_with fail
  obtain ⟨W1, hW1⟩ : ∃ W1, (((w.alloc (.cells #[.slice none 0 0] 23)).alloc (.cells #[.slice none 0 0] 23)).alloc (.cells #[.int .i64 0] 24)).alloc (.cells #[.slice A v c] 67) = W1 := ⟨_, rfl⟩
  have hb1 : Below w.heap.size w W1 := by subst hW1; exact ((((Below.refl _ _).alloc (Nat.le_refl _) _).alloc (by simp) _).alloc (by simp <;> omega) _).alloc (by simp <;> omega) _
  have hs1 : W1.heap.size = w.heap.size + 4 := by subst hW1; simp
  have p0 : W1.heap[w.heap.size]? = some (.cells #[.slice none 0 0] 23 (0, 0)) := by subst hW1; exact alloc_old _ _ _ (by simp <;> omega) (alloc_old _ _ _ (by simp <;> omega) (alloc_old _ _ _ (by simp) (alloc_new _ _ _ rfl)))
  have p1 : W1.heap[w.heap.size + 1]? = some (.cells #[.slice none 0 0] 23 (0, 0)) := by subst hW1; exact alloc_old _ _ _ (by simp <;> omega) (alloc_old _ _ _ (by simp) (alloc_new _ _ _ (by simp)))
  have p2 : W1.heap[w.heap.size + 1 + 1]? = some (.cells #[.int .i64 0] 24 (0, 0)) := by subst hW1; exact alloc_old _ _ _ (by simp) (alloc_new _ _ _ (by simp))
  have p3 : W1.heap[w.heap.size + 1 + 1 + 1]? = some (.cells #[.slice A v c] 67 (0, 0)) := by subst hW1; exact alloc_new _ _ _ (by simp)
  have hL1 : BdL w A v c [] W1 := ⟨p0, p1, p2, p3, hb1, ⟨List.nodup_nil, fun D hD => nomatch hD⟩⟩
  rw [hW1]
  have HL1 := hide hL1
  clear hW1 hb1 hs1 p0 p1 p2 p3 hL1
  have HB1 := hide HL1.out.bel
  have q3 := blk_cell HL1.out.bb 0
  simp only [List.getElem?_toArray, List.getElem?_cons_zero] at q3
  go_upto_region 4 with (go_at_call 62; refine (HV.out _ HB1.out).mono ?_; rintro e wq ⟨rfl, hb⟩; have HLQ := hide (HL1.out.next hb); clear hb)
  clear q3
  have HSS : Hid (∀ w', Below wq.heap.size wq w' → w'.cell? ⟨w.heap.size + 1 + 1 + 1, 0, none⟩ = some (.slice A v c) ∧ Below wq.heap.size wq w') := fun w' h => ⟨blk_cell (HLQ.out.next h).bb 0, h⟩
  have HBQ := hide HLQ.out.bel
  clear HL1 HB1
  go_cut [22] from 14 to 22 (fun u22 w1 => u22 = .bool true ∧ Below wq.heap.size wq w1)
  case first =>
    refine wp_region_noPanic ?_
    refine wp_region_held_drew (S := (fun w' => w'.cell? ⟨w.heap.size + 1 + 1 + 1, 0, none⟩ = some (.slice A v c) ∧ Below wq.heap.size wq w')) (by kernel_rfl) (HSS.out _ (Below.refl _ wq).drew) (fun hHeld => ?_)
    show wpAnyH _ _ _ _ _ _ (#[false, false, false, false, false, false, false, false, false] : Array Bool) _ _
    refine wpAnyH_take (i := 0) (v := .slice A v c) rfl (by kernel_rfl) (by kernel_rfl) (by kernel_rfl) (fun _ _ _ h => h) (Or.inl ⟨by rfl, ?_⟩) hHeld ?_
    · (intro w' hSw; obtain ⟨y1, y2⟩ := hSw; go_simp)
    try simp only [Act.put, List.setIfInBounds_toArray, List.set_cons_zero, List.set_cons_succ]
    refine wpAnyH_take (i := 1) (v := .slice A v c) rfl (by kernel_rfl) (by kernel_rfl) (by kernel_rfl) (fun _ _ _ h => h) (Or.inl ⟨by rfl, ?_⟩) hHeld ?_
    · (intro w' hSw; obtain ⟨y1, y2⟩ := hSw; go_simp)
    try simp only [Act.put, List.setIfInBounds_toArray, List.set_cons_zero, List.set_cons_succ]
    refine wpAnyH_take (i := 4) (v := .slice A v c) rfl (by kernel_rfl) (by kernel_rfl) (by kernel_rfl) (fun _ _ _ h => h) (Or.inl ⟨by rfl, ?_⟩) hHeld ?_
    · (intro w' hSw; obtain ⟨y1, y2⟩ := hSw; go_simp)
    try simp only [Act.put, List.setIfInBounds_toArray, List.set_cons_zero, List.set_cons_succ]
    refine wpAnyH_take (i := 5) (v := .int .i64 (v : Nat)) rfl (by kernel_rfl) (by kernel_rfl) (by kernel_rfl) (fun _ _ _ h => h) (Or.inl ⟨by rfl, ?_⟩) hHeld ?_
    · (intro w' hSw; obtain ⟨y1, y2⟩ := hSw; go_simp)
    try simp only [Act.put, List.setIfInBounds_toArray, List.set_cons_zero, List.set_cons_succ]
    have hB : Below wq.heap.size wq wq.drew := (Below.refl _ wq).drew
    refine wpAnyH_ready (rs := [2]) (by kernel_rfl) (by simp) ?_
    refine AllReadyH.cons rfl (fun K hK => ?_) AllReadyH.nil
    clear hHeld
    go_simp
    refine (HNA.out _ (HBQ.out.trans (hB.mono HBQ.out.size))).mono ?_
    rintro e w' ⟨rfl, rfl⟩
    try go_wp2_with fail
    refine hK.out _ _ (HSS.out _ hB) (fun hHeld => ?_)
    clear hK K
    try simp only [List.getElem_toArray, List.getElem_cons_succ, List.getElem_cons_zero, put_lit, List.set_cons_zero, List.set_cons_succ]
    refine wpAnyH_ready (rs := [3]) (by kernel_rfl) (by simp) ?_
    refine AllReadyH.cons rfl (fun K hK => ?_) AllReadyH.nil
    clear hHeld
    go_simp
    refine (HU.out n (by omega) _).mono ?_
    rintro e v1 ⟨H3, k3, rfl, hk3, ho, hbn⟩
    try go_wp2_with fail
    have i3 := ints_of_own ho
    replace hB := hB.trans (hbn.mono hB.size)
    clear hbn ho
    refine hK.out _ _ (HSS.out _ hB) (fun hHeld => ?_)
    clear hK K
    try simp only [List.getElem_toArray, List.getElem_cons_succ, List.getElem_cons_zero, put_lit, List.set_cons_zero, List.set_cons_succ]
    refine wpAnyH_ready (rs := [6]) (by kernel_rfl) (by simp) ?_
    refine AllReadyH.cons rfl (fun K hK => ?_) AllReadyH.nil
    clear hHeld
    go_simp
    refine (HU.out v (by omega) _).mono ?_
    rintro e v2 ⟨H6, k6, rfl, hk6, ho, hbn⟩
    try go_wp2_with fail
    replace i3 := i3.next hbn
    have i6 := ints_of_own ho
    replace hB := hB.trans (hbn.mono hB.size)
    clear hbn ho
    refine hK.out _ _ (HSS.out _ hB) (fun hHeld => ?_)
    clear hK K
    try simp only [List.getElem_toArray, List.getElem_cons_succ, List.getElem_cons_zero, put_lit, List.set_cons_zero, List.set_cons_succ]
    refine wpAnyH_ready (rs := [7]) (by kernel_rfl) (by simp) ?_
    refine AllReadyH.cons rfl (fun K hK => ?_) AllReadyH.nil
    clear hHeld
    go_simp
    refine (HAX.out _ (HA.out.next (HBQ.out.trans (hB.mono HBQ.out.size))) H3 n k3 H6 v k6 (List.range n) (List.range v) (by simp) hn1 (by omega) i3 (by simp) (by omega) HRV.out i6).mono ?_
    rw [HNO.out]
    rintro e w9 ⟨X9, m9, c9, rfl, ⟨rfl, hc9, hol, hI9⟩, hbn⟩
    obtain ⟨b', o', x', rfl, h2, _⟩ := hI9.at_ (k := 0) (by rw [up_length, hol]; omega)
    clear hI9 hol h2
    try go_wp2_with fail
    replace hB := hB.trans (hbn.mono hB.size)
    clear hbn
    refine hK.out _ _ (HSS.out _ hB) (fun hHeld => ?_)
    clear hK K
    try simp only [List.getElem_toArray, List.getElem_cons_succ, List.getElem_cons_zero, put_lit, List.set_cons_zero, List.set_cons_succ]
    refine wpAnyH_ready (rs := [8]) (by kernel_rfl) (by simp) ?_
    refine AllReadyH.cons rfl (fun K hK => ?_) AllReadyH.nil
    clear hHeld
    go_simp
    refine hK.out _ _ (HSS.out _ hB) (fun hHeld => ?_)
    clear hK K
    try simp only [List.getElem_toArray, List.getElem_cons_succ, List.getElem_cons_zero, put_lit, List.set_cons_zero, List.set_cons_succ]
    refine wpAnyH_done (by kernel_rfl) ?_ _
    refine NoPanic.normal ?_
    go_wp2_with fail
    go_meet
    exact ⟨rfl, hB⟩
  case rest =>
    obtain ⟨rfl, hb1⟩ := hcut
    have HL2 := hide (HLQ.out.next hb1)
    clear hb1 HSS HLQ HBQ
    have hL := HL2.out
    have x1 := blk_cell hL.c1 0
    have x2 := blk_cell hL.c2 0
    have x3 := blk_cell hL.c3 0
    have g1 := blk_free hL.c1 0
    have g2 := blk_free hL.c2 0
    have g3 := blk_free hL.c3 0
    simp only [List.getElem?_toArray, List.getElem?_cons_zero] at x1 x2 x3
    have hn12 : w.heap.size ≠ w.heap.size + 1 := by omega
    have hn13 : w.heap.size ≠ w.heap.size + 1 + 1 := by omega
    have hn23 : w.heap.size + 1 ≠ w.heap.size + 1 + 1 := by omega
    clear hL
    go_wp2_with fail
    have hL := HL2.out
    obtain ⟨V, hV⟩ : ∃ V, ((wc.setCell ⟨w.heap.size, 0, none⟩ (.slice none 0 0)).setCell ⟨w.heap.size + 1, 0, none⟩ (.slice none 0 0)).setCell ⟨w.heap.size + 1 + 1, 0, none⟩ (.int .i64 4) = V := ⟨_, rfl⟩
    have far : ∀ q, q ≠ w.heap.size → q ≠ w.heap.size + 1 → q ≠ w.heap.size + 1 + 1 → V.heap[q]? = wc.heap[q]? := fun q h1 h2 h3 => by subst hV; exact (blk_far _ h3).trans ((blk_far _ h2).trans (blk_far _ h1))
    have hVs : V.heap.size = wc.heap.size := by subst hV; simp [World.setCell]
    have t1 : V.heap[w.heap.size]? = some (.cells #[.slice none 0 0] 23 (0, 0)) := by subst hV; exact (blk_far _ hn13).trans ((blk_far _ hn12).trans (blk_set hL.c1 0 _))
    have t2 : V.heap[w.heap.size + 1]? = some (.cells #[.slice none 0 0] 23 (0, 0)) := by subst hV; exact (blk_far _ hn23).trans (blk_set ((blk_far _ hn12.symm).trans hL.c2) 0 _)
    have t3 : V.heap[w.heap.size + 1 + 1]? = some (.cells #[.int .i64 4] 24 (0, 0)) := by subst hV; exact blk_set ((blk_far _ hn23.symm).trans ((blk_far _ hn13.symm).trans hL.c3)) 0 _
    have hVO : V.os = wc.os ∧ V.tape = wc.tape ∧ V.output = wc.output := by subst hV; exact ⟨rfl, rfl, rfl⟩
    rw [hV]
    have y1 := blk_cell t1 0
    have y2 := blk_cell t2 0
    have y3 := blk_cell t3 0
    simp only [List.getElem?_toArray, List.getElem?_cons_zero] at y1 y2 y3
    have hb9 := hL.bel
    refine ⟨.tuple #[.slice none 0 0, .slice none 0 0, .int .i64 4], ?_, rfl, ⟨hVO.1.trans hb9.os, hVO.2.1.trans hb9.tape, hVO.2.2.trans hb9.output, by have := hb9.size; omega, fun q hq => (far q (by omega) (by omega) (by omega)).trans (hb9.block q hq)⟩⟩
    rw [results_cells3 rfl]
    clear x1 x2 x3
    go_simp
end Go.Proofs.Ytejijddfepgnkaa
