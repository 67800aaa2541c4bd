/-
  swap.Lie: the step of its search, walked.
-/
import Derived.Test.YtilnbiaabhdfgaaLie
namespace Go.Proofs.Ytilnbiaabhdfgaa
open Go.RowKit
set_option linter.unusedVariables false
set_option linter.unusedSimpArgs false

def lieP (f : List (List Nat) → List Nat) (W : List (List Nat)) (i h : Nat) (l : List Nat) : Bool := decide (place (W.getD i []) ((f (W.set i l)).getD i 0) < place (W.getD i []) h)
theorem goes_lie1 : Goes Try.prog 73 := goes_of Try.func73 rfl rfl
def LPost (p : List Nat → Bool) (n i fb zb : Nat) (rv : Nat → Value) (w0 : World) (F : Nat → Prop) (s : Option (List Nat)) (l : List Nat) (w : World) (e : Ending) (w' : World) : Prop :=
  ∃ F', e = .returned (.bool (findStep p s l).1) ∧ LInv n i fb zb rv w0 F' (findStep p s l).2 w' ∧ (∀ k, F' k → F k ∨ w.heap.size ≤ k) ∧ (∀ k, F' k → k < w'.heap.size) ∧ Only F w w'

set_option maxRecDepth 100000 in
set_option maxHeartbeats 3200000 in
theorem lie1_any {n i rule h fb zb : Nat} {rv : Nat → Value} {w0 : World} {lb ib xb rb hb : Nat} {A : Option Addr} {c cz : Nat} {W : List (List Nat)} {f : List (List Nat) → List Nat} (hB : LieMem n i rule h fb zb rv w0 lb ib xb rb hb A c cz W) (hW : WOk W n) (hin : i < n) (hh : h < n) (hf : OutOk rule n f)
    (F : Nat → Prop) (s : Option (List Nat)) (w : World) (Y : Option Addr) (cy : Nat) (l : List Nat) (hl : Ord l n) (hi : LInv n i fb zb rv w0 F s w) (hY : IntsA w w.heap.size Y (up l)) (hcy : n ≤ cy) (hoff : ∀ k, F k → (Value.slice Y n cy).ownBlock ≠ some k) :
    Calls Try.prog 73 (#[.slice Y n cy] ++ #[.pointer (some ⟨lb, 0, none⟩), .pointer (some ⟨ib, 0, none⟩), .pointer (some ⟨xb, 0, none⟩), .pointer (some ⟨rb, 0, none⟩), .pointer (some ⟨hb, 0, none⟩), .pointer (some ⟨fb, 0, none⟩)]) w (LPost (lieP f W i h) n i fb zb rv w0 F s l w) := by
  obtain ⟨A0, c0, hm⟩ := hi
  have hq := fun (w : World) (a : Option Addr) (n c n' c' : Nat) => Lib.run_eql_slice_nil (P := Try.prog) w 23 _ a n c n' c' Try.underlying23
  have hfb := lt_of_block hm.box
  have hlt := hB.lt
  have h5 := hW.le
  have h1 := hW.pos
  have hYoff : ∀ b o, Y = some ⟨b, o, none⟩ → b ≠ zb := fun b o e e2 => hoff zb ((hm.own zb).2 (.inr (.inl rfl))) (by subst e; subst e2; rfl)
  have k1 := blk_cell ((hm.old lb (by omega) (by omega)).trans hB.hl) 0
  have k2 := blk_cell ((hm.old ib (by omega) (by omega)).trans hB.hi) 0
  simp only [List.getElem?_toArray, List.getElem?_cons_zero] at k1 k2
  have hrd := lies_read hB hm hW.len hl.len hcy hin hY hYoff (fun j hj => (hW.rows j hj).len)
  obtain ⟨cur, hz, hcs, _⟩ := hm.zrow
  have hzl := lt_of_block hz
  have kz : ∃ v, w.cell? ⟨zb, i, none⟩ = some v := ⟨_, (blk_cell hz i).trans (Array.getElem?_eq_getElem (by omega))⟩
  obtain ⟨vz, kz⟩ := kz
  have kf := blk_free hz i
  have hlay := hm.lay (by omega) (.slice Y n cy)
  have hY2 : IntsA (w.setCell ⟨zb, i, none⟩ (.slice Y n cy)) w.heap.size Y (up l) := hY.keepA fun b o e => by
    obtain ⟨b', o', e', hb', _⟩ := hY 0 (by rw [up_length, hl.len]; omega)
    rw [e] at e'
    injection e' with e'
    injection e' with e' _ _
    exact ⟨by rw [e']; exact hb', blk_far _ (hYoff b o e)⟩
  have honly : Only F w (w.setCell ⟨zb, i, none⟩ (.slice Y n cy)) := (Only.refl F w).setCell (.inl ((hm.own zb).2 (.inr (.inl rfl)))) _
  have hsz2 : (w.setCell ⟨zb, i, none⟩ (.slice Y n cy)).heap.size = w.heap.size := by simp [World.setCell]
  have HM0 := hide hm
  have HF := hide hf
  have HL := hide hl
  have HW2 := hide (set_ok (i := i) hW hl)
  have HWR := hide (hW.rows i hin)
  have HWL := hide hW
  have HP : Hid (lieP f W i h l = decide (place (W.getD i []) ((f (W.set i l)).getD i 0) < place (W.getD i []) h)) := rfl
  obtain ⟨hfl, hfg⟩ := hf.ok _ (set_ok (i := i) hW hl)
  have hg := hfg i hin
  have HFL := hide hfl
  simp only [List.append_toArray, List.cons_append, List.nil_append]
  clear hz hcs hm hl hW hf hfg hfl hoff hYoff
  go_enter Try.func73, Try.ntmps73
  go_upto_region 2 with (fail)
  generalize w.setCell ⟨zb, i, none⟩ (.slice Y n cy) = w2 at *
  have q1 := blk_cell ((hlay.old lb (by omega) (by omega)).trans hB.hl) 0
  have q2 := blk_cell ((hlay.old ib (by omega) (by omega)).trans hB.hi) 0
  have q3 := blk_cell ((hlay.old xb (by omega) (by omega)).trans hB.hx) 0
  have q4 := blk_cell ((hlay.old rb (by omega) (by omega)).trans hB.hr) 0
  have q5 := blk_cell ((hlay.old hb (by omega) (by omega)).trans hB.hh) 0
  simp only [List.getElem?_toArray, List.getElem?_cons_zero] at q1 q2 q3 q4 q5
  have hrows : RowsA w2 zb A (upp W) := hB.rows.keep fun p hp => World.cell?_of_block (hlay.old p.block (by omega) (by omega))
  have l1 : lb < w2.heap.size := by omega
  have l2 : ib < w2.heap.size := by omega
  have l3 : xb < w2.heap.size := by omega
  have l4 : rb < w2.heap.size := by omega
  have l5 : hb < w2.heap.size := by omega
  have HRK : Hid (∀ w', Below w2.heap.size w2 w' → ∀ g, g < n → Calls Try.prog 74 #[.slice A n c, .int .i64 i, .int .i64 g] w' fun e w'' => e = .returned (.int .i64 (place (W.getD i []) g)) ∧ w' = w'') := fun w' hw' g hg =>
    prank_any A n c w2.heap.size i g W w' HWL.out.len (by omega) (hrows.top.below hw') hin HWR.out hg
  have HLAY := hide hlay
  have HONLY := hide honly
  generalize hgg : (f (W.set i l)).getD i 0 = g at *
  have HG := hide hgg
  rw [← hsz2] at hrd
  have HRD := hide hrd
  have HCS : Hid (∀ w', Below w2.heap.size w2 w' → w'.cell? ⟨lb, 0, none⟩ = some (.slice (some ⟨zb, 0, none⟩) n cz) ∧ w'.cell? ⟨ib, 0, none⟩ = some (.int .i64 i) ∧ w'.cell? ⟨xb, 0, none⟩ = some (.slice A n c) ∧ w'.cell? ⟨rb, 0, none⟩ = some (.int .i64 rule) ∧ w'.cell? ⟨hb, 0, none⟩ = some (.int .i64 h)) := fun w' hw' =>
    ⟨(hw'.cell (p := ⟨lb, 0, none⟩) l1).trans q1, (hw'.cell (p := ⟨ib, 0, none⟩) l2).trans q2, (hw'.cell (p := ⟨xb, 0, none⟩) l3).trans q3, (hw'.cell (p := ⟨rb, 0, none⟩) l4).trans q4, (hw'.cell (p := ⟨hb, 0, none⟩) l5).trans q5⟩
  have HOUT : Hid (∀ w', Below w2.heap.size w2 w' → Calls Try.prog 71 #[.slice (some ⟨zb, 0, none⟩) n cz, .int .i64 rule] w' fun e w3 => ∃ b o co, e = .returned (.slice (some ⟨b, o, none⟩) n co) ∧ w3.cell? ⟨b, o + i, none⟩ = some (.int .i64 g) ∧ Below w2.heap.size w2 w3 ∧
      w3.cell? ⟨lb, 0, none⟩ = some (.slice (some ⟨zb, 0, none⟩) n cz) ∧ w3.cell? ⟨ib, 0, none⟩ = some (.int .i64 i) ∧ w3.cell? ⟨xb, 0, none⟩ = some (.slice A n c) ∧ w3.cell? ⟨rb, 0, none⟩ = some (.int .i64 rule) ∧ w3.cell? ⟨hb, 0, none⟩ = some (.int .i64 h)) := fun w' hw' =>
    (HF.out.call (some ⟨zb, 0, none⟩) cz (W.set i l) w' HW2.out (HRD.out.next hw')).mono fun e w3 ⟨O, co, h1, h2, h3, _⟩ => by
      obtain ⟨b, o, e1, _, hc⟩ := h2 i (by rw [up_length, HFL.out]; exact hin)
      subst e1
      have h4 := hw'.trans (h3.mono hw'.size)
      obtain ⟨c1, c2, c3, c4, c5⟩ := HCS.out w3 h4
      rw [up_getD, HG.out] at hc
      exact ⟨b, o, co, h1, hc, h4, c1, c2, c3, c4, c5⟩
  have hlt' : decide ((place (W.getD i []) g : Int) < (place (W.getD i []) h : Int)) = lieP f W i h l := by rw [HP.out, Bool.eq_iff_iff]; simp
  have HC1 := hide (fun w' hw' => HRK.out w' hw' g hg)
  have HC2 := hide (fun w' hw' => HRK.out w' hw' h hh)
  generalize place (W.getD i []) g = p1 at *
  generalize place (W.getD i []) h = p2 at *
  obtain ⟨r, hr⟩ : ∃ r, lieP f W i h l = r := ⟨_, rfl⟩
  have HLT : Hid (decide (p1 < p2) = r) := by show _ = _; rw [← hr, ← hlt', Bool.eq_iff_iff]; simp
  have HR := hide hr
  clear hr hlt'
  have hin' : (i : Int) < (n : Int) := by omega
  have hB2 := Below.refl w2.heap.size w2
  clear hgg hlay honly hrows k1 k2 kz kf hrd
  refine wp_region_noPanic ?_
  refine wp_region_held_drew (S := (fun w' => w'.cell? ⟨lb, 0, none⟩ = some (.slice (some ⟨zb, 0, none⟩) n cz) ∧ w'.cell? ⟨ib, 0, none⟩ = some (.int .i64 i) ∧ w'.cell? ⟨xb, 0, none⟩ = some (.slice A n c) ∧ w'.cell? ⟨rb, 0, none⟩ = some (.int .i64 rule) ∧ w'.cell? ⟨hb, 0, none⟩ = some (.int .i64 h) ∧ Below w2.heap.size w2 w')) (by kernel_rfl) ⟨q1, q2, q3, q4, q5, hB2.drew⟩ (fun hHeld => ?_)
  refine wpAnyH_take (i := 0) (v := .slice A n c) rfl (by kernel_rfl) (by kernel_rfl) (by kernel_rfl) (fun _ _ _ h => h) (Or.inl ⟨by rfl, ?_⟩) hHeld ?_
  · (intro w' hSw; obtain ⟨y1, y2, y3, y4, y5, y6⟩ := hSw; go_simp)
  simp only [Act.put, List.setIfInBounds_toArray, List.set_cons_zero, List.set_cons_succ]
  refine wpAnyH_take (i := 1) (v := .int .i64 i) rfl (by kernel_rfl) (by kernel_rfl) (by kernel_rfl) (fun _ _ _ h => h) (Or.inl ⟨by rfl, ?_⟩) hHeld ?_
  · (intro w' hSw; obtain ⟨y1, y2, y3, y4, y5, y6⟩ := hSw; go_simp)
  simp only [Act.put, List.setIfInBounds_toArray, List.set_cons_zero, List.set_cons_succ]
  refine wpAnyH_take (i := 2) (v := .slice (some ⟨zb, 0, none⟩) n cz) rfl (by kernel_rfl) (by kernel_rfl) (by kernel_rfl) (fun _ _ _ h => h) (Or.inl ⟨by rfl, ?_⟩) hHeld ?_
  · (intro w' hSw; obtain ⟨y1, y2, y3, y4, y5, y6⟩ := hSw; go_simp)
  simp only [Act.put, List.setIfInBounds_toArray, List.set_cons_zero, List.set_cons_succ]
  refine wpAnyH_take (i := 3) (v := .int .i64 rule) rfl (by kernel_rfl) (by kernel_rfl) (by kernel_rfl) (fun _ _ _ h => h) (Or.inl ⟨by rfl, ?_⟩) hHeld ?_
  · (intro w' hSw; obtain ⟨y1, y2, y3, y4, y5, y6⟩ := hSw; go_simp)
  simp only [Act.put, List.setIfInBounds_toArray, List.set_cons_zero, List.set_cons_succ]
  refine wpAnyH_take (i := 5) (v := .int .i64 i) rfl (by kernel_rfl) (by kernel_rfl) (by kernel_rfl) (fun _ _ _ h => h) (Or.inl ⟨by rfl, ?_⟩) hHeld ?_
  · (intro w' hSw; obtain ⟨y1, y2, y3, y4, y5, y6⟩ := hSw; go_simp)
  simp only [Act.put, List.setIfInBounds_toArray, List.set_cons_zero, List.set_cons_succ]
  refine wpAnyH_take (i := 9) (v := .slice A n c) rfl (by kernel_rfl) (by kernel_rfl) (by kernel_rfl) (fun _ _ _ h => h) (Or.inl ⟨by rfl, ?_⟩) hHeld ?_
  · (intro w' hSw; obtain ⟨y1, y2, y3, y4, y5, y6⟩ := hSw; go_simp)
  simp only [Act.put, List.setIfInBounds_toArray, List.set_cons_zero, List.set_cons_succ]
  refine wpAnyH_take (i := 10) (v := .int .i64 i) rfl (by kernel_rfl) (by kernel_rfl) (by kernel_rfl) (fun _ _ _ h => h) (Or.inl ⟨by rfl, ?_⟩) hHeld ?_
  · (intro w' hSw; obtain ⟨y1, y2, y3, y4, y5, y6⟩ := hSw; go_simp)
  simp only [Act.put, List.setIfInBounds_toArray, List.set_cons_zero, List.set_cons_succ]
  refine wpAnyH_take (i := 11) (v := .int .i64 h) rfl (by kernel_rfl) (by kernel_rfl) (by kernel_rfl) (fun _ _ _ h => h) (Or.inl ⟨by rfl, ?_⟩) hHeld ?_
  · (intro w' hSw; obtain ⟨y1, y2, y3, y4, y5, y6⟩ := hSw; go_simp)
  simp only [Act.put, List.setIfInBounds_toArray, List.set_cons_zero, List.set_cons_succ]
  refine wpAnyH_ready (rs := [4]) (by kernel_rfl) (by simp) ?_
  refine AllReadyH.cons rfl (fun K hK => ?_) AllReadyH.nil
  have hBd := hHeld.2.2.2.2.2
  clear hHeld
  go_simp
  refine (HOUT.out _ hBd).mono ?_
  rintro e w3 ⟨b, o, co, rfl, hcO, hB3, d1, d2, d3, d4, d5⟩
  go_wp2_with fail
  refine hK.out _ _ ⟨d1, d2, d3, d4, d5, hB3⟩ (fun hHeld => ?_)
  clear hK K
  try simp only [Act.put, List.setIfInBounds_toArray, List.set_cons_zero, List.set_cons_succ]
  refine wpAnyH_take (i := 6) (v := .pointer (some ⟨b, o + i, none⟩)) rfl (by kernel_rfl) (by kernel_rfl) (by kernel_rfl) (fun _ _ _ h => h) (Or.inl ⟨by rfl, ?_⟩) hHeld ?_
  · (intro w' hSw; go_simp)
  simp only [Act.put, List.setIfInBounds_toArray, List.set_cons_zero, List.set_cons_succ]
  refine wpAnyH_ready (rs := [7]) (by kernel_rfl) (by simp) ?_
  refine AllReadyH.cons rfl (fun K hK => ?_) AllReadyH.nil
  go_simp
  refine hK.out _ _ ⟨d1, d2, d3, d4, d5, hB3⟩ (fun hHeld => ?_)
  clear hK K
  try simp only [Act.put, List.setIfInBounds_toArray, List.set_cons_zero, List.set_cons_succ]
  refine wpAnyH_ready (rs := [8]) (by kernel_rfl) (by simp) ?_
  refine AllReadyH.cons rfl (fun K hK => ?_) AllReadyH.nil
  go_simp
  refine (HC1.out _ hB3).mono ?_
  rintro e w4 ⟨rfl, rfl⟩
  go_wp2_with fail
  refine hK.out _ _ ⟨d1, d2, d3, d4, d5, hB3⟩ (fun hHeld => ?_)
  clear hK K
  try simp only [Act.put, List.setIfInBounds_toArray, List.set_cons_zero, List.set_cons_succ]
  refine wpAnyH_ready (rs := [12]) (by kernel_rfl) (by simp) ?_
  refine AllReadyH.cons rfl (fun K hK => ?_) AllReadyH.nil
  go_simp
  refine (HC2.out _ hB3).mono ?_
  rintro e w4 ⟨rfl, rfl⟩
  go_wp2_with fail
  refine hK.out _ _ ⟨d1, d2, d3, d4, d5, hB3⟩ (fun hHeld => ?_)
  clear hK K
  try simp only [Act.put, List.setIfInBounds_toArray, List.set_cons_zero, List.set_cons_succ]
  refine wpAnyH_take (i := 13) (v := .bool r) rfl (by kernel_rfl) (by kernel_rfl) (by kernel_rfl) (fun _ _ _ h => h) (Or.inl ⟨by rfl, ?_⟩) hHeld ?_
  · (intro w' hSw; go_simp; exact HLT.out)
  simp only [Act.put, List.setIfInBounds_toArray, List.set_cons_zero, List.set_cons_succ]
  refine wpAnyH_done (by kernel_rfl) ?_ _
  refine NoPanic.normal ?_
  have hn3 := HLAY.out.next hB3
  have f0 := blk_cell hn3.box 0
  have f1 := blk_free hn3.box 0
  simp only [List.getElem?_toArray, List.getElem?_cons_zero] at f0
  have hsz3 := hB3.size
  have HN3 := hide hn3
  have HO3 : Hid (Only F w w3) := HONLY.out.trans (F' := F) (Only.of_below hB3) (fun q _ hq => hq)
  clear hn3
  cases r
  · cases s with
    | none =>
      obtain ⟨rfl, rfl⟩ := HN3.out.no rfl
      simp only [lenO] at f0
      go_wp2
      go_ret
      have e : findStep (lieP f W i h) none l = (true, none) := by simp [findStep, HR.out]
      exact ⟨F, by rw [e]; rfl, by rw [e]; exact ⟨_, _, HN3.out⟩, fun k hk => .inl hk, HN3.out.lt, HO3.out⟩
    | some l0 =>
      obtain ⟨b', o', rfl, hb'⟩ := HN3.out.addr rfl
      go_wp2
      go_ret
      have e : findStep (lieP f W i h) (some l0) l = (false, some l0) := by simp [findStep, HR.out]
      exact ⟨F, by rw [e]; rfl, by rw [e]; exact ⟨_, _, HN3.out⟩, fun k hk => .inl hk, HN3.out.lt, HO3.out⟩
  · have hYL : IntsA w2 w.heap.size Y (up l) := hY2
    have HCL := hide (clone_any Y n cy w3.heap.size (up l) w3 (by rw [up_length]; exact HL.out.len) (by omega) (hYL.top.next hB3))
    have hzf : zb < fb := by omega
    go_wp2_with (go_at_call 60; refine (HCL.out).mono ?_; rintro e w4 ⟨A', c', rfl, hc', hI', hnil, hb4, hnew⟩; obtain ⟨F', hm', hF'⟩ := HN3.out.put hzf hb4 (n := n) HL.out.len h1 hc' hI' hnew; have f2 := blk_cell (HN3.out.next hb4).box 0; have f3 := blk_free (HN3.out.next hb4).box 0; simp only [List.getElem?_toArray, List.getElem?_cons_zero] at f2; have g2 := blk_cell hm'.box 0; simp only [List.getElem?_toArray, List.getElem?_cons_zero] at g2; obtain ⟨b', o', hA', hb'⟩ := hm'.addr rfl; subst hA'; have HM' := hide hm'; have HF' := hide hF'; have HB4 := hide hb4; clear hm' hF' hI' hnil hnew hb4)
    go_ret
    have e : findStep (lieP f W i h) s l = (false, some l) := by simp [findStep, HR.out]
    refine ⟨F', by rw [e]; rfl, by rw [e]; exact ⟨_, _, HM'.out⟩, fun k hk => ?_, HM'.out.lt, ?_⟩
    · rcases HF'.out k hk with h | h
      · exact .inl h
      · exact .inr (by omega)
    · exact (HO3.out.trans (F' := F) (Only.of_below HB4.out) (fun q _ hq => hq)).setCell (.inl ((HM0.out.own _).2 (.inl rfl))) _
end Go.Proofs.Ytilnbiaabhdfgaa
