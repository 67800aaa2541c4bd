/-
  swap.Lie.
-/
import Derived.Test.YtilnbiaabhdfgaaLieStep
import Derived.Test.YtilnbiaabhdfgaaCloneW
import Derived.Test.YtilnbiaabhdfgaaAsk
import Derived.Test.YtilnbiaabhdfgaaRefOrders
import Derived.Deep.DeepCutAuto
namespace Go.Proofs.Ytilnbiaabhdfgaa
open Go.RowKit
set_option linter.unusedVariables false
set_option linter.unusedSimpArgs false

def lieN (f : List (List Nat) → List Nat) (W : List (List Nat)) (n i : Nat) : Option (List Nat) := (ordsN n).find? (lieP f W i ((f W).getD i 0))

theorem lie_more {n i rule h fb zb : Nat} {rv : Nat → Value} {w0 : World} {lb ib xb rb hb : Nat} {A : Option Addr} {c cz : Nat} {W : List (List Nat)} {f : List (List Nat) → List Nat} (hB : LieMem n i rule h fb zb rv w0 lb ib xb rb hb A c cz W) (hW : WOk W n) (hin : i < n) (hh : h < n) (hf : OutOk rule n f) :
    MoreOk 73 #[.pointer (some ⟨lb, 0, none⟩), .pointer (some ⟨ib, 0, none⟩), .pointer (some ⟨xb, 0, none⟩), .pointer (some ⟨rb, 0, none⟩), .pointer (some ⟨hb, 0, none⟩), .pointer (some ⟨fb, 0, none⟩)] n (fb + 1) (findStep (lieP f W i h)) (LInv n i fb zb rv w0) :=
  ⟨goes_lie1, fun F s w Y cy l hl hi _ _ hY hcy hoff => lie1_any hB hW hin hh hf F s w Y cy l hl hi hY hcy hoff, fun F s w w' ⟨A, c, hi⟩ hk hs _ => ⟨A, c, hi.stab hk hs⟩⟩

set_option maxRecDepth 100000 in
set_option maxHeartbeats 3200000 in
theorem Lie_yes (A : Option Addr) (n c i rule : Nat) (f : List (List Nat) → List Nat) (L : List (List Int)) (w : World) (hn : L.length = n) (hA : RowsA w w.heap.size A L) (hv : validB L = true) (hin : i < n) (hr2 : rule ≤ 2) (hf : OutOk rule n f) :
    Calls Try.prog 45 #[.slice A n c, .int .i64 i, .int .i64 rule] w (FindRes (lieN f (toNN L) n i) w) := by
  obtain ⟨h5, hrow⟩ := rows_short hv
  obtain ⟨hu, hok⟩ := valid_ok hv
  rw [hn] at hok h5
  obtain ⟨w3, hw3⟩ : ∃ w3, w3 = (((w.alloc (.cells #[.int .i64 i] 3)).alloc (.cells #[.int .i64 rule] 3)).alloc (.cells #[.slice A n c] 49)) := ⟨_, rfl⟩
  have hb3 : Below w.heap.size w w3 := by subst hw3; exact ((((Below.refl _ _).alloc (Nat.le_refl _) _).alloc (by simp) _).alloc (by simp <;> omega) _)
  have hs3 : w3.heap.size = w.heap.size + 3 := by subst hw3; simp
  have b0 : w3.heap[w.heap.size]? = some (.cells #[.int .i64 i] 3 (0, 0)) := by subst hw3; exact alloc_old _ _ _ (by simp <;> omega) (alloc_old _ _ _ (by simp) (alloc_new _ _ _ rfl))
  have b1 : w3.heap[w.heap.size + 1]? = some (.cells #[.int .i64 rule] 3 (0, 0)) := by subst hw3; exact alloc_old _ _ _ (by simp) (alloc_new _ _ _ (by simp))
  have b2 : w3.heap[w.heap.size + 1 + 1]? = some (.cells #[.slice A n c] 49 (0, 0)) := by subst hw3; exact alloc_new _ _ _ (by simp)
  have hA3 : RowsA w3 w.heap.size A (upp (toNN L)) := by rw [hu]; exact hA.below hb3
  have HV := hide (valid_any A n c _ L w3 hn (by omega) hrow (hA.below hb3))
  rw [hv] at HV
  have HOK := hide hok
  have HF := hide hf
  have HB3 := hide hb3
  have HS3 := hide hs3
  have HW3 := hide hw3
  have B0 := hide b0
  have B1 := hide b1
  have B2 := hide b2
  have HA3 := hide hA3
  generalize toNN L = W at *
  have q0 := blk_cell b0 0
  have q1 := blk_cell b1 0
  have q2 := blk_cell b2 0
  simp only [List.getElem?_toArray, List.getElem?_cons_zero] at q0 q1 q2
  have hi0 : decide ((i : Int) < 0) = false := decide_eq_false (by omega)
  have hi1 : decide ((n : Int) ≤ (i : Int)) = false := decide_eq_false (by omega)
  have hr0 : decide ((rule : Int) < 0) = false := decide_eq_false (by omega)
  have hr1 : decide ((2 : Int) < (rule : Int)) = false := decide_eq_false (by omega)
  rw [hw3] at HV q0 q1 q2
  clear hv hrow hn hu hA hok hf hb3 hs3 hw3 b0 b1 b2 hA3
  go_enter Try.func45, Try.ntmps45
  go_wp2_with fail
  refine (HV.out).mono ?_
  rintro e w4 ⟨rfl, hb4⟩
  rw [← HW3.out] at hb4
  have l0 : w.heap.size < w3.heap.size := by have := HS3.out; omega
  have l1 : w.heap.size + 1 < w3.heap.size := by have := HS3.out; omega
  have l2 : w.heap.size + 1 + 1 < w3.heap.size := by have := HS3.out; omega
  have p0 := (hb4.cell (p := ⟨w.heap.size, 0, none⟩) l0).trans (blk_cell B0.out 0)
  have p1 := (hb4.cell (p := ⟨w.heap.size + 1, 0, none⟩) l1).trans (blk_cell B1.out 0)
  have p2 := (hb4.cell (p := ⟨w.heap.size + 1 + 1, 0, none⟩) l2).trans (blk_cell B2.out 0)
  simp only [List.getElem?_toArray, List.getElem?_cons_zero] at p0 p1 p2
  have HB4 := hide hb4
  clear hb4 q0 q1 q2
  obtain ⟨h, hh⟩ : ∃ h, (f W).getD i 0 = h := ⟨_, rfl⟩
  obtain ⟨hfl, hfg⟩ := HF.out.ok W HOK.out
  have hhn : h < n := by rw [← hh]; exact hfg i hin
  have HH := hide hh
  have HFL := hide hfl
  clear hh hfl hfg
  have l0 : w.heap.size < w4.heap.size := by have := HB4.out.size; omega
  have l1 : w.heap.size + 1 < w4.heap.size := by have := HB4.out.size; omega
  have l2 : w.heap.size + 1 + 1 < w4.heap.size := by have := HB4.out.size; omega
  have HCS : Hid (∀ w', Below w4.heap.size w4 w' → w'.cell? ⟨w.heap.size, 0, none⟩ = some (.int .i64 i) ∧ w'.cell? ⟨w.heap.size + 1, 0, none⟩ = some (.int .i64 rule) ∧ w'.cell? ⟨w.heap.size + 1 + 1, 0, none⟩ = some (.slice A n c) ∧ Below w4.heap.size w4 w') := fun w' hw' =>
    ⟨(hw'.cell (p := ⟨w.heap.size, 0, none⟩) l0).trans p0, (hw'.cell (p := ⟨w.heap.size + 1, 0, none⟩) l1).trans p1, (hw'.cell (p := ⟨w.heap.size + 1 + 1, 0, none⟩) l2).trans p2, hw'⟩
  have HA4 : Hid (RowsA w4 w.heap.size A (upp W)) := HA3.out.below (HB4.out.mono (by omega))
  have HOUT : Hid (∀ w', Below w4.heap.size w4 w' → Calls Try.prog 71 #[.slice A n c, .int .i64 rule] w' fun e w5 => ∃ b o co, e = .returned (.slice (some ⟨b, o, none⟩) n co) ∧ w5.cell? ⟨b, o + i, none⟩ = some (.int .i64 h) ∧ b < w5.heap.size ∧ Below w'.heap.size w' w5) := fun w' hw' =>
    (HF.out.call A c W w' HOK.out (HA4.out.next hw')).mono fun e w5 ⟨O, co, h1, h2, h3, _⟩ => by
      obtain ⟨b, o, e1, hb, hc⟩ := h2 i (by rw [up_length, HFL.out]; exact hin)
      subst e1
      rw [up_getD, HH.out] at hc
      exact ⟨b, o, co, h1, hc, hb, h3⟩
  have hin' : (i : Int) < (n : Int) := by omega
  have HBR := hide (Below.refl w4.heap.size w4)
  go_upto_region 4 with (fail)
  clear p0 p1 p2 hi0 hi1 hr0 hr1
  go_cut [9] (fun sh wx => ∃ hb, sh = .pointer (some ⟨hb, 0, none⟩) ∧ w4.heap.size ≤ hb ∧ Below w4.heap.size w4 wx ∧ Hid (wx.heap[hb]? = some (.cells #[.int .i64 h] 3 (0, 0))))
  case first =>
    refine wp_region_noPanic ?_
    refine wp_region_held_drew (S := fun w' => w'.cell? ⟨w.heap.size, 0, none⟩ = some (.int .i64 i) ∧ w'.cell? ⟨w.heap.size + 1, 0, none⟩ = some (.int .i64 rule) ∧ w'.cell? ⟨w.heap.size + 1 + 1, 0, none⟩ = some (.slice A n c) ∧ Below w4.heap.size w4 w') (by kernel_rfl) (HCS.out _ HBR.out.drew) (fun hHeld => ?_)
    refine wpAnyH_take (i := 0) (v := .slice A n c) rfl (by kernel_rfl) (by kernel_rfl) (by kernel_rfl) (fun _ _ _ h => h) (Or.inl ⟨by rfl, ?_⟩) hHeld ?_
    · (intro w' hSw; obtain ⟨y1, y2, y3, y4⟩ := hSw; go_simp)
    simp only [Act.put, List.setIfInBounds_toArray, List.set_cons_zero, List.set_cons_succ]
    refine wpAnyH_take (i := 1) (v := .int .i64 rule) rfl (by kernel_rfl) (by kernel_rfl) (by kernel_rfl) (fun _ _ _ h => h) (Or.inl ⟨by rfl, ?_⟩) hHeld ?_
    · (intro w' hSw; obtain ⟨y1, y2, y3, y4⟩ := hSw; go_simp)
    simp only [Act.put, List.setIfInBounds_toArray, List.set_cons_zero, List.set_cons_succ]
    refine wpAnyH_take (i := 3) (v := .int .i64 i) rfl (by kernel_rfl) (by kernel_rfl) (by kernel_rfl) (fun _ _ _ h => h) (Or.inl ⟨by rfl, ?_⟩) hHeld ?_
    · (intro w' hSw; obtain ⟨y1, y2, y3, y4⟩ := hSw; go_simp)
    simp only [Act.put, List.setIfInBounds_toArray, List.set_cons_zero, List.set_cons_succ]
    refine wpAnyH_ready (rs := [2, 6]) (by kernel_rfl) (by simp) ?_
    refine AllReadyH.cons rfl (fun K hK => ?_) ?_
    ·
      have hBd := hHeld.2.2.2
      clear hHeld
      go_simp
      refine (HOUT.out _ hBd).mono ?_
      rintro e w5 ⟨b, o, co, rfl, hcO, hbl, hb5⟩
      have hB5 := hBd.trans (hb5.mono hBd.size)
      go_wp2_with fail
      refine hK.out _ _ (HCS.out _ hB5) (fun hHeld => ?_)
      clear hK K
      try simp only [Act.put, List.setIfInBounds_toArray, List.set_cons_zero, List.set_cons_succ]
      refine wpAnyH_take (i := 4) (v := .pointer (some ⟨b, o + i, none⟩)) rfl (by kernel_rfl) (by kernel_rfl) (by kernel_rfl) (fun _ _ _ h => h) (Or.inl ⟨by rfl, ?_⟩) hHeld ?_
      · (intro w' hSw; obtain ⟨y1, y2, y3, y4⟩ := hSw; go_simp)
      simp only [Act.put, List.setIfInBounds_toArray, List.set_cons_zero, List.set_cons_succ]
      refine wpAnyH_ready (rs := [5, 6]) (by kernel_rfl) (by simp) ?_
      refine AllReadyH.cons rfl (fun K hK => ?_) ?_
      ·
        go_simp
        refine hK.out _ _ (HCS.out _ hB5) (fun hHeld => ?_)
        clear hK K
        try simp only [Act.put, List.setIfInBounds_toArray, List.set_cons_zero, List.set_cons_succ]
        refine wpAnyH_ready (rs := [6]) (by kernel_rfl) (by simp) ?_
        refine AllReadyH.cons rfl (fun K hK => ?_) AllReadyH.nil
        have hBa := hB5.alloc hB5.size (.cells #[.int .i64 0] 3)
        go_simp
        refine hK.out _ _ (HCS.out _ hBa) (fun hHeld => ?_)
        clear hK K
        try simp only [Act.put, List.setIfInBounds_toArray, List.set_cons_zero, List.set_cons_succ]
        refine wpAnyH_ready (rs := [7]) (by kernel_rfl) (by simp) ?_
        refine AllReadyH.cons rfl (fun K hK => ?_) AllReadyH.nil
        go_simp
        refine hK.out _ _ (HCS.out _ (hB5.alloc hB5.size (.cells #[.int .i64 h] 3))) (fun hHeld => ?_)
        clear hK K
        try simp only [Act.put, List.setIfInBounds_toArray, List.set_cons_zero, List.set_cons_succ]
        refine wpAnyH_done (by kernel_rfl) ?_ _
        refine NoPanic.normal ?_
        go_wp2_with fail
        go_meet
        exact ⟨w5.heap.size, rfl, hB5.size, hB5.alloc hB5.size _, alloc_new _ _ _ rfl⟩
      · refine AllReadyH.cons rfl (fun K hK => ?_) AllReadyH.nil
        have hBa := hB5.alloc hB5.size (.cells #[.int .i64 0] 3)
        go_simp
        refine hK.out _ _ (HCS.out _ hBa) (fun hHeld => ?_)
        clear hK K
        try simp only [Act.put, List.setIfInBounds_toArray, List.set_cons_zero, List.set_cons_succ]
        refine wpAnyH_ready (rs := [5]) (by kernel_rfl) (by simp) ?_
        refine AllReadyH.cons rfl (fun K hK => ?_) AllReadyH.nil
        have hcO2 := (World.cell?_alloc_lt w5 (.cells #[.int .i64 0] 3) ⟨b, o + i, none⟩ hbl).trans hcO
        go_simp
        refine hK.out _ _ (HCS.out _ hBa) (fun hHeld => ?_)
        clear hK K
        try simp only [Act.put, List.setIfInBounds_toArray, List.set_cons_zero, List.set_cons_succ]
        refine wpAnyH_ready (rs := [7]) (by kernel_rfl) (by simp) ?_
        refine AllReadyH.cons rfl (fun K hK => ?_) AllReadyH.nil
        go_simp
        refine hK.out _ _ (HCS.out _ (hB5.alloc hB5.size (.cells #[.int .i64 h] 3))) (fun hHeld => ?_)
        clear hK K
        try simp only [Act.put, List.setIfInBounds_toArray, List.set_cons_zero, List.set_cons_succ]
        refine wpAnyH_done (by kernel_rfl) ?_ _
        refine NoPanic.normal ?_
        go_wp2_with fail
        go_meet
        exact ⟨w5.heap.size, rfl, hB5.size, hB5.alloc hB5.size _, alloc_new _ _ _ rfl⟩
    · refine AllReadyH.cons rfl (fun K hK => ?_) AllReadyH.nil
      have hBa := hHeld.2.2.2.alloc hHeld.2.2.2.size (.cells #[.int .i64 0] 3)
      clear hHeld
      go_simp
      refine hK.out _ _ (HCS.out _ hBa) (fun hHeld => ?_)
      clear hK K
      try simp only [Act.put, List.setIfInBounds_toArray, List.set_cons_zero, List.set_cons_succ]
      refine wpAnyH_ready (rs := [2]) (by kernel_rfl) (by simp) ?_
      refine AllReadyH.cons rfl (fun K hK => ?_) AllReadyH.nil
      have hBd := hHeld.2.2.2
      clear hHeld
      go_simp
      refine (HOUT.out _ hBd).mono ?_
      rintro e w5 ⟨b, o, co, rfl, hcO, hbl, hb5⟩
      have hB5 := hBd.trans (hb5.mono hBd.size)
      go_wp2_with fail
      refine hK.out _ _ (HCS.out _ hB5) (fun hHeld => ?_)
      clear hK K
      try simp only [Act.put, List.setIfInBounds_toArray, List.set_cons_zero, List.set_cons_succ]
      refine wpAnyH_take (i := 4) (v := .pointer (some ⟨b, o + i, none⟩)) rfl (by kernel_rfl) (by kernel_rfl) (by kernel_rfl) (fun _ _ _ h => h) (Or.inl ⟨by rfl, ?_⟩) hHeld ?_
      · (intro w' hSw; obtain ⟨y1, y2, y3, y4⟩ := hSw; go_simp)
      simp only [Act.put, List.setIfInBounds_toArray, List.set_cons_zero, List.set_cons_succ]
      refine wpAnyH_ready (rs := [5]) (by kernel_rfl) (by simp) ?_
      refine AllReadyH.cons rfl (fun K hK => ?_) AllReadyH.nil
      go_simp
      refine hK.out _ _ (HCS.out _ hB5) (fun hHeld => ?_)
      clear hK K
      try simp only [Act.put, List.setIfInBounds_toArray, List.set_cons_zero, List.set_cons_succ]
      refine wpAnyH_ready (rs := [7]) (by kernel_rfl) (by simp) ?_
      refine AllReadyH.cons rfl (fun K hK => ?_) AllReadyH.nil
      have hhb : w5.heap[w4.heap.size]? = some (.cells #[.int .i64 0] 3 (0, 0)) := (hb5.block _ (by simp)).trans (alloc_new _ _ _ (by simp))
      have z0 := blk_cell hhb 0
      have z1 := blk_free hhb 0
      simp only [List.getElem?_toArray, List.getElem?_cons_zero] at z0
      have hset := blk_set hhb 0 (.int .i64 h)
      have hBs : Below w4.heap.size w4 (w5.setCell ⟨w4.heap.size, 0, none⟩ (.int .i64 h)) := hB5.setCell (by show w4.heap.size ≤ w4.heap.size; omega) _
      go_simp
      refine hK.out _ _ (HCS.out _ hBs) (fun hHeld => ?_)
      clear hK K
      try simp only [Act.put, List.setIfInBounds_toArray, List.set_cons_zero, List.set_cons_succ]
      refine wpAnyH_done (by kernel_rfl) ?_ _
      refine NoPanic.normal ?_
      go_wp2_with fail
      go_meet
      exact ⟨w4.heap.size, rfl, Nat.le_refl _, hBs, hset⟩
  case rest =>
    obtain ⟨hb, rfl, hhb, hbel, hblk⟩ := hcut
    have hcs := HCS.out _ hbel
    have p0 := hcs.1
    have p1 := hcs.2.1
    have p2 := hcs.2.2.1
    have hblw : Below w.heap.size w wc := HB3.out.trans ((HB4.out.trans (hbel.mono HB4.out.size)).mono HB3.out.size)
    have hAc : RowsA wc wc.heap.size A (upp W) := HA4.out.next hbel
    have HCL := hide (cloneW_any A n c (upp W) wc (by rw [upp_length, HOK.out.len]) HOK.out.pos (by omega) hAc)
    have hblt : hb < wc.heap.size := lt_of_block hblk.out
    have hszc := hbel.size
    have HAC := hide hAc
    have HCS2 := hide hcs
    clear hcs hAc
    have hq := fun (w : World) (a : Option Addr) (n c n' c' : Nat) => Lib.run_eql_slice_nil (P := Try.prog) w 23 _ a n c n' c' Try.underlying23
    go_upto_region 7 with (go_at_call 72; refine (HCL.out).mono ?_; rintro e w6 ⟨zb, cz, us, rfl, hcz, hown, hzb, hb6, hus⟩; have HOW := hide hown; have HUS := hide hus; have HB6 := hide hb6; clear hown hus hb6)
    obtain ⟨w7, hw7⟩ : ∃ w7, w7 = ((w6.alloc (.cells #[.slice (some ⟨zb, 0, none⟩) n cz] 49)).alloc (.cells #[.slice none 0 0] 23)) := ⟨_, rfl⟩
    have hs7 : w7.heap.size = w6.heap.size + 1 + 1 := by subst hw7; simp
    have hb67 : Below w6.heap.size w6 w7 := by subst hw7; exact ((Below.refl _ _).alloc (Nat.le_refl _) _).alloc (by simp) _
    have g0 : w7.heap[w6.heap.size]? = some (.cells #[.slice (some ⟨zb, 0, none⟩) n cz] 49 (0, 0)) := by subst hw7; exact alloc_old _ _ _ (by simp) (alloc_new _ _ _ rfl)
    have g1 : w7.heap[w6.heap.size + 1]? = some (.cells #[.slice none 0 0] 23 (0, 0)) := by subst hw7; exact alloc_new _ _ _ (by simp)
    have hszr := HB6.out.size
    have hzl := (own_lt HOW.out zb rfl).2
    have hc7 : Below wc.heap.size wc w7 := HB6.out.trans (hb67.mono hszr)
    have hc37 : Below w3.heap.size w3 w7 := (HB4.out.trans (hbel.mono HB4.out.size)).trans (hc7.mono (by have := HB4.out.size; omega))
    have hmem : LieMem n i rule h (w6.heap.size + 1) zb (fun j => us.getD j (.bool false)) w7 w6.heap.size w.heap.size (w.heap.size + 1 + 1) (w.heap.size + 1) hb A c cz W := by
      refine ⟨g0, ?_, ?_, ?_, (hc7.block hb hblt).trans hblk.out, by omega, ((HA4.out.below (HBR.out.trans hbel |>.mono (by omega))).below (hc7.mono (by omega))).more (by omega), fun j hj => ?_⟩
      · exact (hc37.block _ (by have := HS3.out; omega)).trans B0.out
      · exact (hc37.block _ (by have := HS3.out; omega)).trans B2.out
      · exact (hc37.block _ (by have := HS3.out; omega)).trans B1.out
      · obtain ⟨A', c', e1, hle, hI⟩ := HUS.out j hj
        rw [upp_getD, up_length, (HOK.out.rows j hj).len] at e1 hle
        rw [upp_getD] at hI
        exact ⟨A', c', by simp [List.getD_eq_getElem?_getD, e1], hle, (hI.below hc7).more hzb⟩
    have hmore := lie_more hmem HOK.out hin hhn HF.out
    rw [← hs7] at hmore
    have hinv : LInv n i (w6.heap.size + 1) zb (fun j => us.getD j (.bool false)) w7 (fun k => k = w6.heap.size + 1 ∨ k = zb) none w7 := by
      refine ⟨none, 0, g1, fun _ => ⟨rfl, rfl⟩, (fun l hl => by cases hl), (fun k => by simp), (fun k _ _ => rfl), ?_, (fun o e => by cases e)⟩
      have hown := own_next HOW.out hb67
      rcases hown.2 with ⟨e1, _⟩ | ⟨g, cap, cur, hv, hg, hh, hc1, hc2, hc3, hc4⟩
      · cases e1
      · injection hv with e1 e2 e3
        injection e1 with e1
        injection e1 with e1 _ _
        subst e1; subst e3
        refine ⟨cur, hh, by omega, fun j hj _ => ?_⟩
        rw [← hc4, List.getD_eq_getElem?_getD, List.getElem?_take, if_pos (by omega), ← Array.getElem?_toList]
        cases h9 : cur.toList[j]? with
        | some v => rfl
        | none => rw [List.getElem?_eq_none_iff] at h9; simp at h9; omega
    have HO := hide (orders_any hmore (by omega) none (fun k => k = w6.heap.size + 1 ∨ k = zb) hinv (fun q hq => by rcases hq with h | h <;> omega))
    have HW7 := hide hw7
    have HB7 : Hid (Below w.heap.size w w7) := hblw.trans (hc7.mono hblw.size)
    have hfw : w.heap.size ≤ w6.heap.size + 1 ∧ w.heap.size ≤ zb := by have := hblw.size; omega
    obtain ⟨r, hr⟩ : ∃ r, lieN f W n i = r := ⟨_, rfl⟩
    have hr2 : (runL (findStep (lieP f W i h)) (ordsN n) none).2 = r := by rw [runL_find, ← hr, lieN, HH.out]
    rw [hr2] at HO
    have HR := hide hr
    rw [hw7] at HO
    clear hmem hmore hinv g0 g1 hw7 hb67 hc7 hc37 hr hr2 hblk p0 p1 p2
    go_wp2_with fail
    refine (HO.out).mono ?_
    rintro e w8 ⟨F', rfl, ⟨A', c', hm8⟩, h2, h3, h4⟩
    rw [← HW7.out] at h4
    have f0 := blk_cell hm8.box 0
    simp only [List.getElem?_toArray, List.getElem?_cons_zero] at f0
    have H8 := hide hm8
    have H4 := hide h4
    have HBE : Hid (Below w.heap.size w w8) := HB7.out.trans (h4.below (HB7.out.size) (fun k hk => by rcases hk with h | h <;> omega))
    cases r with
    | none =>
      obtain ⟨rfl, rfl⟩ := hm8.no rfl
      clear hm8 h2 h3 h4
      simp only [lenO] at f0
      go_wp2
      go_ret2
      rw [HR.out]
      exact ⟨none, 0, rfl, IntsA.nil_, HBE.out⟩
    | some l =>
      obtain ⟨b', o', rfl, hb'⟩ := hm8.addr rfl
      clear hm8 h2 h3 h4
      go_wp2
      go_ret2
      rw [HR.out]
      exact ⟨_, c', rfl, (H8.out.yes l rfl).2.2, HBE.out⟩


set_option maxHeartbeats 1600000 in
theorem Lie_no (A : Option Addr) (n c B : Nat) (x y : Int) (L : List (List Int)) (w : World) (hn : L.length = n) (hlen : n ≤ 9223372036854775807) (hrow : ∀ l ∈ L, l.length ≤ 9223372036854775807) (hA : RowsA w B A L) (hv : validB L = false ∨ validB L = true ∧ (x < 0 ∨ (n : Int) ≤ x ∨ y < 0 ∨ 2 < y)) :
    Calls Try.prog 45 #[.slice A n c, .int .i64 x, .int .i64 y] w fun e w' => e = .returned (.tuple #[.slice none 0 0, .int .i64 2]) ∧ Below w.heap.size w w' := by
  obtain ⟨w3, hw3⟩ : ∃ w3, w3 = (((w.alloc (.cells #[.int .i64 x] 3)).alloc (.cells #[.int .i64 y] 3)).alloc (.cells #[.slice A n c] 49)) := ⟨_, rfl⟩
  have hb3 : Below w.heap.size w w3 := by subst hw3; exact ((((Below.refl _ _).alloc (Nat.le_refl _) _).alloc (by simp) _).alloc (by simp <;> omega) _)
  have hs3 : w3.heap.size = w.heap.size + 3 := by subst hw3; simp
  have b0 : w3.heap[w.heap.size]? = some (.cells #[.int .i64 x] 3 (0, 0)) := by subst hw3; exact alloc_old _ _ _ (by simp <;> omega) (alloc_old _ _ _ (by simp) (alloc_new _ _ _ rfl))
  have b1 : w3.heap[w.heap.size + 1]? = some (.cells #[.int .i64 y] 3 (0, 0)) := by subst hw3; exact alloc_old _ _ _ (by simp) (alloc_new _ _ _ (by simp))
  have b2 : w3.heap[w.heap.size + 1 + 1]? = some (.cells #[.slice A n c] 49 (0, 0)) := by subst hw3; exact alloc_new _ _ _ (by simp)
  have HV := hide (valid_any A n c _ L w3 hn hlen hrow (hA.top.below hb3))
  have HB3 := hide hb3
  have HS3 := hide hs3
  have HW3 := hide hw3
  have B0 := hide b0
  have B1 := hide b1
  have B2 := hide b2
  have q0 := blk_cell b0 0
  have q1 := blk_cell b1 0
  have q2 := blk_cell b2 0
  simp only [List.getElem?_toArray, List.getElem?_cons_zero] at q0 q1 q2
  rw [hw3] at q0 q1 q2
  have hfin : ∀ w4 : World, Below w3.heap.size w3 w4 → Below w.heap.size w w4 := fun w4 h => hb3.trans (h.mono hb3.size)
  have HFIN := hide hfin
  have hl0 : w.heap.size < w3.heap.size := by omega
  have hl1 : w.heap.size + 1 < w3.heap.size := by omega
  clear hfin hs3 hb3 b0 b1 b2 hrow hA hn
  rcases hv with hv | ⟨hv, hc⟩
  · rw [hv, hw3] at HV
    clear hv hw3
    go_enter Try.func45, Try.ntmps45
    go_wp2_with fail
    refine (HV.out).mono ?_
    rintro e w4 ⟨rfl, hb4⟩
    rw [← HW3.out] at hb4
    go_wp2
    go_ret2
    exact ⟨rfl, HFIN.out _ hb4⟩
  · rw [hv, hw3] at HV
    clear hv hw3
    by_cases h1 : x < 0
    · clear hc
      go_enter Try.func45, Try.ntmps45
      go_wp2_with fail
      refine (HV.out).mono ?_
      rintro e w4 ⟨rfl, hb4⟩
      rw [← HW3.out] at hb4
      have p0 := (hb4.cell (p := ⟨w.heap.size, 0, none⟩) hl0).trans (blk_cell B0.out 0)
      simp only [List.getElem?_toArray, List.getElem?_cons_zero] at p0
      go_wp2
      go_ret2
      exact ⟨rfl, HFIN.out _ hb4⟩
    · by_cases h2 : (n : Int) ≤ x
      · clear hc
        go_enter Try.func45, Try.ntmps45
        go_wp2_with fail
        refine (HV.out).mono ?_
        rintro e w4 ⟨rfl, hb4⟩
        rw [← HW3.out] at hb4
        have p0 := (hb4.cell (p := ⟨w.heap.size, 0, none⟩) hl0).trans (blk_cell B0.out 0)
        simp only [List.getElem?_toArray, List.getElem?_cons_zero] at p0
        go_wp2
        go_ret2
        exact ⟨rfl, HFIN.out _ hb4⟩
      · by_cases h3 : y < 0
        · clear hc
          go_enter Try.func45, Try.ntmps45
          go_wp2_with fail
          refine (HV.out).mono ?_
          rintro e w4 ⟨rfl, hb4⟩
          rw [← HW3.out] at hb4
          have p0 := (hb4.cell (p := ⟨w.heap.size, 0, none⟩) hl0).trans (blk_cell B0.out 0)
          have p1 := (hb4.cell (p := ⟨w.heap.size + 1, 0, none⟩) hl1).trans (blk_cell B1.out 0)
          simp only [List.getElem?_toArray, List.getElem?_cons_zero] at p0 p1
          go_wp2
          go_ret2
          exact ⟨rfl, HFIN.out _ hb4⟩
        · have h4 : 2 < y := by omega
          clear hc
          go_enter Try.func45, Try.ntmps45
          go_wp2_with fail
          refine (HV.out).mono ?_
          rintro e w4 ⟨rfl, hb4⟩
          rw [← HW3.out] at hb4
          have p0 := (hb4.cell (p := ⟨w.heap.size, 0, none⟩) hl0).trans (blk_cell B0.out 0)
          have p1 := (hb4.cell (p := ⟨w.heap.size + 1, 0, none⟩) hl1).trans (blk_cell B1.out 0)
          simp only [List.getElem?_toArray, List.getElem?_cons_zero] at p0 p1
          go_wp2
          go_ret2
          exact ⟨rfl, HFIN.out _ hb4⟩
end Go.Proofs.Ytilnbiaabhdfgaa
