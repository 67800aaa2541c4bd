/-
  The reference's Lie.
-/
import Derived.Test.YtilnbiaabhdfgaaRefAsked
import Derived.Test.YtilnbiaabhdfgaaRefBetter
import Derived.Test.YtilnbiaabhdfgaaLieApi
namespace Go.Proofs.Ytilnbiaabhdfgaa
open Go.RowKit
set_option linter.unusedVariables false
set_option linter.unusedSimpArgs false

/-- A row of rows of the call's own, with another row laid into it. -/
theorem set_rows {w : World} {base n cz zb i B cy : Nat} {e : TypeId} {us : List Value} {W : List (List Nat)} {l : List Nat} {Y : Option Addr} (hown : w.ownsRow base e 1 (.slice (some ⟨zb, 0, none⟩) n cz) n us) (hlen : W.length = n)
    (hus : ∀ j, j < n → ∃ A' c', us[j]? = some (.slice A' (W.getD j []).length c') ∧ (W.getD j []).length ≤ c' ∧ IntsA w B A' (up (W.getD j []))) (hB : B ≤ zb) (hY : IntsA w B Y (up l)) (hcy : l.length ≤ cy) :
    RowsA (w.setCell ⟨zb, i, none⟩ (.slice Y l.length cy)) w.heap.size (some ⟨zb, 0, none⟩) (upp (W.set i l)) := by
  rcases hown.2 with ⟨e1, _⟩ | ⟨g, cap, cur, hv, hg, hh, hc1, hc2, hc3, hc4⟩
  · cases e1
  · injection hv with e1 e2 e3
    injection e1 with e1
    injection e1 with e1 _ _
    subst e1; subst e3
    have hzl := lt_of_block hh
    intro j hj
    rw [upp_length, List.length_set, hlen] at hj
    rw [upp_getD, set_row hlen l hj]
    have hset := blk_set hh i (.slice Y l.length cy)
    have hcell : (w.setCell ⟨zb, i, none⟩ (.slice Y l.length cy)).cell? ⟨zb, 0 + j, none⟩ = (cur.setIfInBounds i (.slice Y l.length cy))[j]? := by rw [Nat.zero_add]; exact blk_cell hset j
    have keep : ∀ p : Addr, p.block < B → (w.setCell ⟨zb, i, none⟩ (.slice Y l.length cy)).cell? p = w.cell? p := fun p hp => World.cell?_of_block (blk_far _ (by omega))
    by_cases e : j = i
    · subst e
      rw [if_pos rfl, up_length]
      exact ⟨zb, 0, Y, cy, rfl, hzl, by rw [hcell, Array.getElem?_setIfInBounds_self_of_lt (by omega)], hcy, (hY.keep keep).more (by omega)⟩
    · rw [if_neg e, up_length]
      obtain ⟨A', c', e1, hle, hI⟩ := hus j hj
      refine ⟨zb, 0, A', c', rfl, hzl, ?_, hle, (hI.keep keep).more (by omega)⟩
      rw [hcell, Array.getElem?_setIfInBounds_ne (fun h => e h.symm), ← e1, ← hc4, List.getElem?_take, if_pos (by omega), Array.getElem?_toList]

set_option maxRecDepth 100000 in
set_option maxHeartbeats 6400000 in
theorem refLie_any (A : Option Addr) (n c i rule : Nat) (f : List (List Nat) → List Nat) (W : List (List Nat)) (w : World) (hW : WOk W n) (hA : RowsA w w.heap.size A (upp W)) (hin : i < n) (hf : OutOk rule n f) (hrf : ROutOk rule n f) :
    Calls Try.prog 46 #[.slice A n c, .int .i64 i, .int .i64 rule] w (FindRes (lieN f W n i) w) := by
  have h5 := hW.le
  have h1 := hW.pos
  have HW := hide hW
  have HF := hide hf
  have HRF := hide hrf
  obtain ⟨b3, o3, A', n', c', rfl, hb3, hc3, hx3, hle3, hI3⟩ := hA.at_ (k := i) (by rw [upp_length, hW.len]; exact hin)
  rw [upp_getD] at hI3 hx3
  have hri := hW.rows i hin
  obtain rfl : n = n' := by have := hx3.out; rw [up_length, hri.len] at this; exact this
  have HA := hide hA
  have HRI := hide hri
  have HI3 := hide hI3
  obtain ⟨h, hh⟩ : ∃ h, (f W).getD i 0 = h := ⟨_, rfl⟩
  obtain ⟨hfl, hfg⟩ := hf.ok W hW
  have hhn : h < n := by rw [← hh]; exact hfg i hin
  have HH := hide hh
  have HFL := hide hfl
  have hlt3 := cell_lt hc3
  have hcell : Hid (∀ w', Below w.heap.size w w' → w'.cell? ⟨b3, o3 + i, none⟩ = some (.slice A' n c') ∧ Below w.heap.size w w') := fun w' hw' => ⟨(hw'.cell (p := ⟨b3, o3 + i, none⟩) hlt3).trans hc3, hw'⟩
  have HOUT : Hid (∀ w', Below w.heap.size w w' → Calls Try.prog 75 #[.slice (some ⟨b3, o3, none⟩) n c, .int .i64 rule] w' fun e w5 => ∃ b o co, e = .returned (.slice (some ⟨b, o, none⟩) n co) ∧ w5.cell? ⟨b, o + i, none⟩ = some (.int .i64 h) ∧ Below w.heap.size w w5) := fun w' hw' =>
    (HRF.out.call _ c W w' HW.out (HA.out.next hw')).mono fun e w5 ⟨O, co, h1, h2, h3, _⟩ => by
      obtain ⟨b, o, e1, hb, hc⟩ := h2 i (by rw [up_length, HFL.out]; exact hin)
      subst e1
      rw [up_getD, HH.out] at hc
      exact ⟨b, o, co, h1, hc, hw'.trans (h3.mono hw'.size)⟩
  have HRK : Hid (∀ w', Below w.heap.size w w' → ∀ g, g < n → Calls Try.prog 61 #[.slice A' n c', .int .i64 g] w' fun e w'' => e = .returned (.int .i64 (place (W.getD i []) g)) ∧ w' = w'') := fun w' hw' g hg =>
    rrank_any A' n c' w.heap.size g _ w' HRI.out (by omega) (HI3.out.below hw') hg
  have HC0 := hide (fun w' hw' => HRK.out w' hw' h hhn)
  obtain ⟨p0, hp0⟩ : ∃ p0, place (W.getD i []) h = p0 := ⟨_, rfl⟩
  rw [hp0] at HC0
  have HP0 := hide hp0
  have hin' : (i : Int) < (n : Int) := by omega
  have HBR := hide (Below.refl w.heap.size w)
  obtain ⟨r, hr⟩ : ∃ r, lieN f W n i = r := ⟨_, rfl⟩
  have HR := hide hr
  clear hW hf hrf hA hx3 hri hI3 hh hfl hfg hp0 hr
  go_enter Try.func46, Try.ntmps46
  go_wp2
  go_cut [8] (fun sh wx => sh = .int .i64 p0 ∧ Below w.heap.size w wx)
  case first =>
    refine wp_region_noPanic ?_
    refine wp_region_held_drew (S := (fun w' => w'.cell? ⟨b3, o3 + i, none⟩ = some (.slice A' n c') ∧ Below w.heap.size w w')) (by kernel_rfl) (hcell.out _ HBR.out.drew) (fun hHeld => ?_)
    refine wpAnyH_take (i := 0) (v := .slice (some ⟨b3, o3, none⟩) n c) rfl (by kernel_rfl) (by kernel_rfl) (by kernel_rfl) (fun _ _ _ h => h) (Or.inl ⟨by rfl, ?_⟩) hHeld ?_
    · (intro w' hSw; obtain ⟨y1, y2⟩ := hSw; go_simp)
    try simp only [Act.put, List.setIfInBounds_toArray, List.set_cons_zero, List.set_cons_succ]
    refine wpAnyH_take (i := 1) (v := .int .i64 i) rfl (by kernel_rfl) (by kernel_rfl) (by kernel_rfl) (fun _ _ _ h => h) (Or.inl ⟨by rfl, ?_⟩) hHeld ?_
    · (intro w' hSw; obtain ⟨y1, y2⟩ := hSw; go_simp)
    try simp only [Act.put, List.setIfInBounds_toArray, List.set_cons_zero, List.set_cons_succ]
    refine wpAnyH_take (i := 2) (v := .pointer (some ⟨b3, o3 + i, none⟩)) rfl (by kernel_rfl) (by kernel_rfl) (by kernel_rfl) (fun _ _ _ h => h) (Or.inl ⟨by rfl, ?_⟩) hHeld ?_
    · (intro w' hSw; obtain ⟨y1, y2⟩ := hSw; go_simp)
    try simp only [Act.put, List.setIfInBounds_toArray, List.set_cons_zero, List.set_cons_succ]
    refine wpAnyH_take (i := 3) (v := .slice A' n c') rfl (by kernel_rfl) (by kernel_rfl) (by kernel_rfl) (fun _ _ _ h => h) (Or.inl ⟨by rfl, ?_⟩) hHeld ?_
    · (intro w' hSw; obtain ⟨y1, y2⟩ := hSw; go_simp)
    try simp only [Act.put, List.setIfInBounds_toArray, List.set_cons_zero, List.set_cons_succ]
    refine wpAnyH_take (i := 4) (v := .slice (some ⟨b3, o3, none⟩) n c) rfl (by kernel_rfl) (by kernel_rfl) (by kernel_rfl) (fun _ _ _ h => h) (Or.inl ⟨by rfl, ?_⟩) hHeld ?_
    · (intro w' hSw; obtain ⟨y1, y2⟩ := hSw; go_simp)
    try simp only [Act.put, List.setIfInBounds_toArray, List.set_cons_zero, List.set_cons_succ]
    refine wpAnyH_take (i := 5) (v := .int .i64 rule) rfl (by kernel_rfl) (by kernel_rfl) (by kernel_rfl) (fun _ _ _ h => h) (Or.inl ⟨by rfl, ?_⟩) hHeld ?_
    · (intro w' hSw; obtain ⟨y1, y2⟩ := hSw; go_simp)
    try simp only [Act.put, List.setIfInBounds_toArray, List.set_cons_zero, List.set_cons_succ]
    refine wpAnyH_take (i := 7) (v := .int .i64 i) rfl (by kernel_rfl) (by kernel_rfl) (by kernel_rfl) (fun _ _ _ h => h) (Or.inl ⟨by rfl, ?_⟩) hHeld ?_
    · (intro w' hSw; obtain ⟨y1, y2⟩ := hSw; go_simp)
    try simp only [Act.put, List.setIfInBounds_toArray, List.set_cons_zero, List.set_cons_succ]
    refine wpAnyH_ready (rs := [6]) (by kernel_rfl) (by simp) ?_
    refine AllReadyH.cons rfl (fun K hK => ?_) AllReadyH.nil
    have hBd := hHeld.2
    clear hHeld
    go_simp
    refine (HOUT.out _ hBd).mono ?_
    rintro e w5 ⟨b, o, co, rfl, hcO, hB5⟩
    go_wp2_with fail
    refine hK.out _ _ (hcell.out _ hB5) (fun hHeld => ?_)
    clear hK K
    try simp only [Act.put, List.setIfInBounds_toArray, List.set_cons_zero, List.set_cons_succ]
    refine wpAnyH_take (i := 8) (v := .pointer (some ⟨b, o + i, none⟩)) rfl (by kernel_rfl) (by kernel_rfl) (by kernel_rfl) (fun _ _ _ h => h) (Or.inl ⟨by rfl, ?_⟩) hHeld ?_
    · (intro w' hSw; obtain ⟨y1, y2⟩ := hSw; go_simp)
    try simp only [Act.put, List.setIfInBounds_toArray, List.set_cons_zero, List.set_cons_succ]
    refine wpAnyH_ready (rs := [9]) (by kernel_rfl) (by simp) ?_
    refine AllReadyH.cons rfl (fun K hK => ?_) AllReadyH.nil
    go_simp
    refine hK.out _ _ (hcell.out _ hB5) (fun hHeld => ?_)
    clear hK K
    try simp only [Act.put, List.setIfInBounds_toArray, List.set_cons_zero, List.set_cons_succ]
    refine wpAnyH_ready (rs := [10]) (by kernel_rfl) (by simp) ?_
    refine AllReadyH.cons rfl (fun K hK => ?_) AllReadyH.nil
    go_simp
    refine (HC0.out _ hB5).mono ?_
    rintro e w6 ⟨rfl, rfl⟩
    go_wp2_with fail
    refine hK.out _ _ (hcell.out _ hB5) (fun hHeld => ?_)
    clear hK K
    try simp only [Act.put, List.setIfInBounds_toArray, List.set_cons_zero, List.set_cons_succ]
    refine wpAnyH_ready (rs := [11]) (by kernel_rfl) (by simp) ?_
    refine AllReadyH.cons rfl (fun K hK => ?_) AllReadyH.nil
    go_simp
    refine hK.out _ _ (hcell.out _ hB5) (fun hHeld => ?_)
    clear hK K
    try simp only [Act.put, List.setIfInBounds_toArray, List.set_cons_zero, List.set_cons_succ]
    refine wpAnyH_done (by kernel_rfl) ?_ _
    refine NoPanic.normal ?_
    go_wp2_with fail
    go_meet
    exact ⟨rfl, hB5⟩
  case rest =>
    obtain ⟨rfl, hbc⟩ := hcut
    go_wp2_with (go_at_call 58; refine (refOrders_any h5 h1 wc).mono ?_; intro e w1 hrn; obtain ⟨X2, c2, rfl, hc2, hR, hb1⟩ := rowsNew_rows hrn; have HR2 := hide hR; clear hrn hR)
    have hbw1 : Below w.heap.size w w1 := hbc.trans (hb1.mono hbc.size)
    obtain ⟨N, hN⟩ : ∃ N, (ordsN n).length = N := ⟨_, rfl⟩
    have hN120 : N ≤ 120 := by rw [← hN]; exact ords_len n h5
    have HNN := hide hN
    rw [hN] at hc2
    rw [hN]
    clear hN hb1 hbc
    go_loopw [27] (fun s wr => ∃ j : Nat, j ≤ N ∧ s = .int .i64 j ∧ Below w1.heap.size w1 wr ∧ Hid (∀ q, q < j → lieP f W i h ((ordsN n).getD q []) = false)) (fun s _ => N - (intOf s).toNat)
    case atStart => exact ⟨0, Nat.zero_le _, rfl, Below.refl _ _, fun i hi => by omega⟩
    case round =>
      obtain ⟨j, hj, rfl, hbel, hno⟩ := hrel
      have hbw := hbw1.trans (hbel.mono hbw1.size)
      by_cases hlt : j < N
      · have hjl : j < (ordsN n).length := by rw [HNN.out]; exact hlt
        obtain ⟨b7, o7, Y, n7, cy, rfl, hb7, hc7, hx7, hle7, hY⟩ := (HR2.out.next hbel).at_ (k := j) (by rw [upp_length]; exact hjl)
        rw [upp_getD] at hY hx7
        obtain ⟨l, hl⟩ : ∃ l, (ordsN n).getD j [] = l := ⟨_, rfl⟩
        have hol : Ord l n := by rw [← hl]; exact mem_ordsN.1 (getD_mem hjl)
        rw [hl] at hY hx7
        obtain rfl : n = n7 := by have := hx7.out; rw [up_length, hol.len] at this; exact this
        have HL := hide hl
        have HOL := hide hol
        have HY := hide hY
        have HAr := hide (HA.out.next hbw)
        obtain ⟨us, hul, hus, huv, hu1⟩ := rows_us HAr.out
        rw [upp_length, HW.out.len] at hul huv
        have hus1 : ∀ k u, us[k]? = some u → ∃ b o, (some ⟨b3, o3, none⟩ : Option Addr) = some ⟨b, o, none⟩ ∧ (wr.alloc (.cells #[] 23)).cell? ⟨b, o + k, none⟩ = some u := fun k u hu => by
          obtain ⟨b, o, e, hc⟩ := hus k u hu
          exact ⟨b, o, e, (World.cell?_alloc_lt _ _ _ (cell_lt hc)).trans hc⟩
        have hown : (wr.alloc (.cells #[] 23)).ownsRow wr.heap.size 23 1 (.slice (some ⟨wr.heap.size, 0, none⟩) 0 0) 0 [] :=
          ⟨rfl, .inr ⟨wr.heap.size, 0, #[], rfl, Nat.le_refl _, alloc_new _ _ _ rfl, Nat.le_refl _, by decide, rfl, rfl⟩⟩
        have HO := hide hown
        have HUL := hide hul
        have HUS := hide hus1
        have HUV := hide huv
        have HU1 := hide hu1
        clear hown hul hus hus1 huv hu1 hx7 hY hol hl hjl
        go_upto_region 6 with ((at_builtin); refine wpList_appVals _ _ 22 23 (.slice none 0 0) 24 rfl rfl Try.underlying22 info_ints rfl wr.heap.size (.slice (some ⟨wr.heap.size, 0, none⟩) 0 0) 0 [] rfl (some ⟨b3, o3, none⟩) n c us rfl HUL.out (by omega) HUS.out HU1.out HO.out (by omega) (by omega) (by simp) ?_; intro zb cz w2 hown1 hcz hg1 hgr; have HOW := hide hown1; have HG := hide hgr; have HG1 := hide hg1; clear hown1 hgr hg1)
        have hsz : (wr.alloc (.cells #[] 23)).heap.size = wr.heap.size + 1 := by simp
        have hzb : wr.heap.size ≤ zb := by
          rcases HG1.out with h | h
          · simp [Value.ownBlock] at h; omega
          · omega
        have hb2 : Below wr.heap.size wr w2 := ((Below.refl _ _).alloc (Nat.le_refl _) _).grown HG.out (by omega) (fun q hq => by simp [Value.ownBlock] at hq; omega)
        have hown : w2.ownsRow wr.heap.size 23 1 (.slice (some ⟨zb, 0, none⟩) n cz) n us := by simpa using HOW.out
        have hcn : n ≤ cz := by omega
        try simp only [Nat.zero_add]
        clear HOW HG HG1 HO hcz hsz
        have hzl := (own_lt hown zb rfl).2
        obtain ⟨vz, kz⟩ : ∃ v, w2.cell? ⟨zb, i, none⟩ = some v := by
          have hil : i < us.length := by rw [HUL.out]; exact hin
          have := hown.cells (g := zb) rfl i us[i] (List.getElem?_eq_getElem hil)
          rw [add_plain, Nat.zero_add] at this
          exact ⟨_, this⟩
        have kf : w2.frozen? ⟨zb, i, none⟩ = false := by
          rcases hown.2 with ⟨e1, _⟩ | ⟨g, cap, cur, hv, hg, hhh, _⟩
          · cases e1
          · injection hv with e1 e2 e3
            injection e1 with e1
            injection e1 with e1 _ _
            subst e1
            exact blk_free hhh i
        have hrows : RowsA (w2.setCell ⟨zb, i, none⟩ (.slice Y n cy)) w2.heap.size (some ⟨zb, 0, none⟩) (upp (W.set i l)) := by
          have h8 := set_rows (i := i) (cy := cy) (l := l) (Y := Y) hown HW.out.len (fun k hk => by
            obtain ⟨A9, c9, e9, hle9, hI9⟩ := HUV.out k hk
            rw [upp_getD, up_length] at e9 hle9
            rw [upp_getD] at hI9
            exact ⟨A9, c9, e9, hle9, hI9.below hb2⟩) hzb (HY.out.top.below hb2) (by rw [HOL.out.len]; exact hle7)
          rw [HOL.out.len] at h8; exact h8
        obtain ⟨w3, hw3⟩ : ∃ w3, w3 = w2.setCell ⟨zb, i, none⟩ (.slice Y n cy) := ⟨_, rfl⟩
        have hs3 : w3.heap.size = w2.heap.size := by subst hw3; simp [World.setCell]
        have hbr3 : Below wr.heap.size wr w3 := by subst hw3; exact hb2.setCell (by show wr.heap.size ≤ zb; omega) _
        have hbw3 : Below w.heap.size w w3 := hbw.trans (hbr3.mono hbw.size)
        have hb13 : Below w1.heap.size w1 w3 := hbel.trans (hbr3.mono hbel.size)
        rw [← hw3, ← hs3] at hrows
        have HROW := hide hrows
        have HW3 := hide hw3
        obtain ⟨hfl2, hfg2⟩ := HF.out.ok _ (set_ok (i := i) HW.out HOL.out)
        obtain ⟨g, hgg⟩ : ∃ g, (f (W.set i l)).getD i 0 = g := ⟨_, rfl⟩
        have hgn : g < n := by rw [← hgg]; exact hfg2 i hin
        have HGG := hide hgg
        have HFL2 := hide hfl2
        have HOUT2 : Hid (∀ w', Below w3.heap.size w3 w' → Calls Try.prog 75 #[.slice (some ⟨zb, 0, none⟩) n cz, .int .i64 rule] w' fun e w5 => ∃ b o co, e = .returned (.slice (some ⟨b, o, none⟩) n co) ∧ w5.cell? ⟨b, o + i, none⟩ = some (.int .i64 g) ∧ Below w3.heap.size w3 w5) := fun w' hw' =>
          (HRF.out.call _ cz (W.set i l) w' (set_ok HW.out HOL.out) (HROW.out.next hw')).mono fun e w5 ⟨O, co, h1, h2, h3, _⟩ => by
            obtain ⟨b, o, e1, hb, hc⟩ := h2 i (by rw [up_length, HFL2.out]; exact hin)
            subst e1
            rw [up_getD, HGG.out] at hc
            exact ⟨b, o, co, h1, hc, hw'.trans (h3.mono hw'.size)⟩
        have HCS : Hid (∀ w', Below w3.heap.size w3 w' → w'.cell? ⟨b3, o3 + i, none⟩ = some (.slice A' n c') ∧ Below w3.heap.size w3 w') := fun w' hw' => ⟨(hcell.out w' (hbw3.trans (hw'.mono hbw3.size))).1, hw'⟩
        have HC2 : Hid (∀ w', Below w3.heap.size w3 w' → Calls Try.prog 61 #[.slice A' n c', .int .i64 g] w' fun e w'' => e = .returned (.int .i64 (place (W.getD i []) g)) ∧ w' = w'') := fun w' hw' => HRK.out w' (hbw3.trans (hw'.mono hbw3.size)) g hgn
        have hlp : Hid (lieP f W i h l = decide (place (W.getD i []) g < p0)) := by show _ = _; rw [lieP, HGG.out, HP0.out]
        generalize place (W.getD i []) g = p1 at *
        obtain ⟨z, hz⟩ : ∃ z, decide (p1 < p0) = z := ⟨_, rfl⟩
        have HZ := hide hz
        rw [hz] at hlp
        have HBR3 := hide (Below.refl w3.heap.size w3)
        clear hgg hfl2 hfg2 hown hrows hz hs3
        go_upto_region 7 with (fail)
        rw [← HW3.out]
        clear kz kf hw3
        go_cut [50] (fun sh wx => sh = .bool z ∧ Below w3.heap.size w3 wx)
        case first =>
          refine wp_region_noPanic ?_
          refine wp_region_held_drew (S := (fun w' => w'.cell? ⟨b3, o3 + i, none⟩ = some (.slice A' n c') ∧ Below w3.heap.size w3 w')) (by kernel_rfl) (HCS.out _ HBR3.out.drew) (fun hHeld => ?_)
          refine wpAnyH_take (i := 0) (v := .slice (some ⟨b3, o3, none⟩) n c) rfl (by kernel_rfl) (by kernel_rfl) (by kernel_rfl) (fun _ _ _ h => h) (Or.inl ⟨by rfl, ?_⟩) hHeld ?_
          · (intro w' hSw; obtain ⟨y1, y2⟩ := hSw; go_simp)
          try simp only [Act.put, List.setIfInBounds_toArray, List.set_cons_zero, List.set_cons_succ]
          refine wpAnyH_take (i := 1) (v := .int .i64 i) rfl (by kernel_rfl) (by kernel_rfl) (by kernel_rfl) (fun _ _ _ h => h) (Or.inl ⟨by rfl, ?_⟩) hHeld ?_
          · (intro w' hSw; obtain ⟨y1, y2⟩ := hSw; go_simp)
          try simp only [Act.put, List.setIfInBounds_toArray, List.set_cons_zero, List.set_cons_succ]
          refine wpAnyH_take (i := 2) (v := .pointer (some ⟨b3, o3 + i, none⟩)) rfl (by kernel_rfl) (by kernel_rfl) (by kernel_rfl) (fun _ _ _ h => h) (Or.inl ⟨by rfl, ?_⟩) hHeld ?_
          · (intro w' hSw; obtain ⟨y1, y2⟩ := hSw; go_simp)
          try simp only [Act.put, List.setIfInBounds_toArray, List.set_cons_zero, List.set_cons_succ]
          refine wpAnyH_take (i := 3) (v := .slice A' n c') rfl (by kernel_rfl) (by kernel_rfl) (by kernel_rfl) (fun _ _ _ h => h) (Or.inl ⟨by rfl, ?_⟩) hHeld ?_
          · (intro w' hSw; obtain ⟨y1, y2⟩ := hSw; go_simp)
          try simp only [Act.put, List.setIfInBounds_toArray, List.set_cons_zero, List.set_cons_succ]
          refine wpAnyH_take (i := 4) (v := .slice (some ⟨zb, 0, none⟩) n cz) rfl (by kernel_rfl) (by kernel_rfl) (by kernel_rfl) (fun _ _ _ h => h) (Or.inl ⟨by rfl, ?_⟩) hHeld ?_
          · (intro w' hSw; obtain ⟨y1, y2⟩ := hSw; go_simp)
          try simp only [Act.put, List.setIfInBounds_toArray, List.set_cons_zero, List.set_cons_succ]
          refine wpAnyH_take (i := 5) (v := .int .i64 rule) rfl (by kernel_rfl) (by kernel_rfl) (by kernel_rfl) (fun _ _ _ h => h) (Or.inl ⟨by rfl, ?_⟩) hHeld ?_
          · (intro w' hSw; obtain ⟨y1, y2⟩ := hSw; go_simp)
          try simp only [Act.put, List.setIfInBounds_toArray, List.set_cons_zero, List.set_cons_succ]
          refine wpAnyH_take (i := 7) (v := .int .i64 i) rfl (by kernel_rfl) (by kernel_rfl) (by kernel_rfl) (fun _ _ _ h => h) (Or.inl ⟨by rfl, ?_⟩) hHeld ?_
          · (intro w' hSw; obtain ⟨y1, y2⟩ := hSw; go_simp)
          try simp only [Act.put, List.setIfInBounds_toArray, List.set_cons_zero, List.set_cons_succ]
          refine wpAnyH_take (i := 11) (v := .int .i64 p0) rfl (by kernel_rfl) (by kernel_rfl) (by kernel_rfl) (fun _ _ _ h => h) (Or.inl ⟨by rfl, ?_⟩) hHeld ?_
          · (intro w' hSw; obtain ⟨y1, y2⟩ := hSw; go_simp)
          try simp only [Act.put, List.setIfInBounds_toArray, List.set_cons_zero, List.set_cons_succ]
          refine wpAnyH_ready (rs := [6]) (by kernel_rfl) (by simp) ?_
          refine AllReadyH.cons rfl (fun K hK => ?_) AllReadyH.nil
          have hBd := hHeld.2
          clear hHeld
          go_simp
          refine (HOUT2.out _ hBd).mono ?_
          rintro e w5 ⟨b, o, co, rfl, hcO, hB5⟩
          go_wp2_with fail
          refine hK.out _ _ (HCS.out _ hB5) (fun hHeld => ?_)
          clear hK K
          try simp only [Act.put, List.setIfInBounds_toArray, List.set_cons_zero, List.set_cons_succ]
          refine wpAnyH_take (i := 8) (v := .pointer (some ⟨b, o + i, none⟩)) rfl (by kernel_rfl) (by kernel_rfl) (by kernel_rfl) (fun _ _ _ h => h) (Or.inl ⟨by rfl, ?_⟩) hHeld ?_
          · (intro w' hSw; obtain ⟨y1, y2⟩ := hSw; go_simp)
          try simp only [Act.put, List.setIfInBounds_toArray, List.set_cons_zero, List.set_cons_succ]
          refine wpAnyH_ready (rs := [9]) (by kernel_rfl) (by simp) ?_
          refine AllReadyH.cons rfl (fun K hK => ?_) AllReadyH.nil
          go_simp
          refine hK.out _ _ (HCS.out _ hB5) (fun hHeld => ?_)
          clear hK K
          try simp only [Act.put, List.setIfInBounds_toArray, List.set_cons_zero, List.set_cons_succ]
          refine wpAnyH_ready (rs := [10]) (by kernel_rfl) (by simp) ?_
          refine AllReadyH.cons rfl (fun K hK => ?_) AllReadyH.nil
          go_simp
          refine (HC2.out _ hB5).mono ?_
          rintro e w6 ⟨rfl, rfl⟩
          go_wp2_with fail
          refine hK.out _ _ (HCS.out _ hB5) (fun hHeld => ?_)
          clear hK K
          try simp only [Act.put, List.setIfInBounds_toArray, List.set_cons_zero, List.set_cons_succ]
          refine wpAnyH_ready (rs := [12]) (by kernel_rfl) (by simp) ?_
          refine AllReadyH.cons rfl (fun K hK => ?_) AllReadyH.nil
          go_simp
          rw [HZ.out]
          refine hK.out _ _ (HCS.out _ hB5) (fun hHeld => ?_)
          clear hK K
          try simp only [Act.put, List.setIfInBounds_toArray, List.set_cons_zero, List.set_cons_succ]
          refine wpAnyH_done (by kernel_rfl) ?_ _
          refine NoPanic.normal ?_
          go_wp2_with fail
          go_meet
          exact ⟨rfl, hB5⟩
        case rest =>
          obtain ⟨rfl, hbc⟩ := hcut
          have hb1c : Below w1.heap.size w1 wc := hb13.trans (hbc.mono hb13.size)
          have hbwc : Below w.heap.size w wc := hbw3.trans (hbc.mono hbw3.size)
          have hbrc : Below wr.heap.size wr wc := hbr3.trans (hbc.mono hbr3.size)
          cases z
          · go_wp2
            go_roundw
            case rel =>
              refine ⟨j + 1, by omega, by go_num, hb1c, fun q hq => ?_⟩
              by_cases e : q = j
              · rw [e, HL.out, hlp.out]
              · exact hno.out q (by omega)
            case measure => simp [intOf] <;> omega
          · have hjl : j < (ordsN n).length := by rw [HNN.out]; exact hlt
            have hres : lieN f W n i = some l := by rw [lieN, HH.out, ← HL.out]; exact find_at hjl (by rw [HL.out]; exact hlp.out) (fun q hq => hno.out q hq)
            have HRR := hide hres
            clear hres hjl
            go_wp2
            go_ret2
            rw [HRR.out]
            exact ⟨Y, cy, by simp [lenO, HOL.out.len], HY.out.next hbrc, hbwc⟩
      · obtain rfl : N = j := by omega
        have hres : lieN f W n i = none := by rw [lieN, HH.out]; exact find_not (fun q hq => hno.out q (by rw [← HNN.out]; exact hq))
        have HRR := hide hres
        clear hres
        go_wp2
        go_ret2
        rw [HRR.out]
        exact ⟨none, 0, rfl, IntsA.nil_, hbw⟩
end Go.Proofs.Ytilnbiaabhdfgaa
