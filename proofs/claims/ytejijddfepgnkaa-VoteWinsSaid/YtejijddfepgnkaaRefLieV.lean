/-
  The reference's Lie.
-/
import Derived.Test.YtejijddfepgnkaaWinEq
import Derived.Test.YtejijddfepgnkaaLieV
import Derived.Deep.RegionHeld3
namespace Go.Proofs.Ytejijddfepgnkaa
open Go.RowKit
set_option linter.unusedVariables false
set_option linter.unusedSimpArgs false

/-- What Lie answers, whoever is asked. -/
def RLiePost (W : List (List Nat)) (v n r : Nat) (w : World) (e : Ending) (w' : World) : Prop := Below w.heap.size w w' ∧ (match lieN W v n r with
      | none => e = .returned (.tuple #[.int .i64 0, .slice none 0 0, .int .i64 4])
      | some (i, x) => ∃ X cx, e = .returned (.tuple #[.int .i64 (i : Nat), .slice X n cx, .int .i64 0]) ∧ n ≤ cx ∧ IntsA w' w'.heap.size X (up x))
theorem find_at {p : List Nat → Bool} {xs : List (List Nat)} {j : Nat} (hj : j < xs.length) (hp : p (xs.getD j []) = true) (hno : ∀ q, q < j → p (xs.getD q []) = false) : xs.find? p = some (xs.getD j []) := by
  have e : xs = xs.take j ++ xs.getD j [] :: xs.drop (j + 1) := by
    rw [List.getD_eq_getElem?_getD, List.getElem?_eq_getElem hj]
    simp
  have h0 : (xs.take j).find? p = none := by
    rw [List.find?_eq_none]
    intro x hx
    obtain ⟨q, hq, rfl⟩ := List.getElem_of_mem hx
    have h1 := hno q (by simp at hq; omega)
    rw [List.getD_eq_getElem?_getD, List.getElem?_eq_getElem (by simp at hq; omega)] at h1
    simpa using h1
  rw [e, List.find?_append, h0]
  rw [← e]
  simp only [Option.none_or, List.find?_cons, hp]
theorem find_no {p : List Nat → Bool} {xs : List (List Nat)} (hno : ∀ q, q < xs.length → p (xs.getD q []) = false) : xs.find? p = none := by
  rw [List.find?_eq_none]
  intro x hx
  obtain ⟨q, hq, rfl⟩ := List.getElem_of_mem hx
  have h1 := hno q hq
  rw [List.getD_eq_getElem?_getD, List.getElem?_eq_getElem hq] at h1
  simpa using h1

set_option maxRecDepth 100000 in
set_option maxHeartbeats 3200000 in
theorem refLieV_any (A : Option Addr) (v n c r : Nat) (W : List (List Nat)) (w : World) (hr : r ≤ 3) (hW : BOk W v n) (hA : RowsA w w.heap.size A (upp W)) :
    Calls Try.prog 35 #[.slice A v c, .int .i64 (r : Nat)] w (RLiePost W v n r w) := by
  have hn5 := hW.nle
  have h9 := hW.le
  have h1 := hW.pos
  have HWN := hide (fun (A' : Option Addr) (c' : Nat) (W' : List (List Nat)) (w' : World) (hW' : BOk W' v n) (hA' : RowsA w' w'.heap.size A' (upp W')) => refWin_any A' v n c' r W' w' hr hW' hA')
  have HSO := hide (fun (w' : World) => some_any n w' hn5 n hn5)
  obtain ⟨N, hN⟩ : ∃ N, (ordsN n).length = N := ⟨_, rfl⟩
  have hN5 : N ≤ 3125 := by rw [← hN]; exact ords_len5 hn5
  obtain ⟨h, hh⟩ : ∃ h, winN W v n r = h := ⟨_, rfl⟩
  have HWI := hide (HWN.out A c W w hW hA)
  rw [hh] at HWI
  obtain ⟨us, hul, hus, huv, hu1⟩ := rows_us hA
  rw [upp_length, hW.len] at hul huv
  have hat : ∀ i, i < v → ∃ Ai ci, us[i]? = some (.slice Ai n ci) ∧ n ≤ ci ∧ IntsA w w.heap.size Ai (up (W.getD i [])) := fun i hi => by
    obtain ⟨A', c', g1, g2, g3⟩ := huv i hi
    rw [upp_getD, up_length, (hW.rows i hi).len] at g1 g2
    rw [upp_getD] at g3
    exact ⟨A', c', g1, g2, g3⟩
  obtain ⟨b0, o0, hAe, hz0⟩ := hus 0 us[0] (List.getElem?_eq_getElem (by omega))
  subst hAe
  have hcl : ∀ i u, us[i]? = some u → w.cell? ⟨b0, o0 + i, none⟩ = some u := fun i u hu => by
    obtain ⟨b, o, e, hc⟩ := hus i u hu
    injection e with e; injection e with e1 e2
    subst e1; subst e2
    exact hc
  have hb0 : b0 < w.heap.size := cell_lt hz0
  obtain ⟨A0, c0, g0, g1, g2⟩ := hat 0 h1
  have hc0 := hcl 0 _ g0
  rw [Nat.add_zero] at hc0
  have HUL := hide hul
  have HAT := hide hat
  have HCL := hide hcl
  have HU1 := hide hu1
  have HW := hide hW
  have HN := hide hN
  have HH := hide hh
  have hv0 : v ≠ 0 := by omega
  have hnz : n ≠ 0 := by have := hW.npos; omega
  have hn1 := hW.npos
  clear hW hA hN hh hul hus huv hu1 hat hcl hz0 g0 g1 g2
  go_enter Try.func35, Try.ntmps35
  go_wp2_with (go_at_call 36; refine HWI.out.mono ?_; rintro e w1 ⟨rfl, hb1⟩; have HB1 := hide hb1; clear hb1)
  go_loopw [17] (fun i wr => ∃ k : Nat, k ≤ v ∧ i = .int .i64 k ∧ Hid (∀ i, i < k → (ordsN n).find? (gains W v n r i) = none) ∧ Below w.heap.size w wr) (fun i _ => v - (intOf i).toNat)
  case atStart => exact ⟨0, Nat.zero_le _, rfl, fun i hi => absurd hi (by omega), HB1.out⟩
  case round =>
    obtain ⟨k, hk, rfl, hno, hbel⟩ := hrel
    have HB := hide hbel
    have hszr := hbel.size
    have q0 := (hbel.cell (p := ⟨b0, o0, none⟩) hb0).trans hc0
    clear hbel
    by_cases hlt : k < v
    · obtain ⟨Ak, ck, hk1, hk2, hk3⟩ := HAT.out k hlt
      have hck := HCL.out k _ hk1
      have HK3 := hide hk3
      have HK1 := hide hk1
      clear hk1 hk3
      go_wp2_with fail
      go_cut [28, 29, 30] (fun u17 u18 u19 w1 => ∃ X c1, u17 = .slice X N c1 ∧ u18 = .int .i64 N ∧ u19 = .int .i64 0 ∧ N ≤ c1 ∧ RowsA w1 w1.heap.size X (upp (ordsN n)) ∧ Below wr.heap.size wr w1)
      case first =>
        refine wp_region_noPanic ?_
        refine wp_region_held_drew (S := (fun w' => w'.cell? ⟨b0, o0, none⟩ = some (.slice A0 n c0) ∧ Below wr.heap.size wr w')) (by kernel_rfl) ⟨q0, (Below.refl _ wr).drew⟩ (fun hHeld => ?_)
        show wpAnyH _ _ _ _ _ _ (#[false, false, false, false, false, false, false, false, false, false, false] : Array Bool) _ _
        refine wpAnyH_take (i := 0) (v := .slice (some ⟨b0, o0, none⟩) v c) rfl (by kernel_rfl) (by kernel_rfl) (by kernel_rfl) (fun _ _ _ h => h) (Or.inl ⟨by rfl, ?_⟩) hHeld ?_
        · (intro w' hSw; obtain ⟨y1, y2⟩ := hSw; go_simp)
        try simp only [Act.put, List.setIfInBounds_toArray, List.set_cons_zero, List.set_cons_succ]
        refine wpAnyH_take (i := 1) (v := .pointer (some ⟨b0, o0, none⟩)) rfl (by kernel_rfl) (by kernel_rfl) (by kernel_rfl) (fun _ _ _ h => h) (Or.inl ⟨by rfl, ?_⟩) hHeld ?_
        · (intro w' hSw; obtain ⟨y1, y2⟩ := hSw; go_simp)
        try simp only [Act.put, List.setIfInBounds_toArray, List.set_cons_zero, List.set_cons_succ]
        refine wpAnyH_take (i := 2) (v := .slice A0 n c0) rfl (by kernel_rfl) (by kernel_rfl) (by kernel_rfl) (fun _ _ _ h => h) (Or.inl ⟨by rfl, ?_⟩) hHeld ?_
        · (intro w' hSw; obtain ⟨y1, y2⟩ := hSw; go_simp)
        try simp only [Act.put, List.setIfInBounds_toArray, List.set_cons_zero, List.set_cons_succ]
        refine wpAnyH_take (i := 3) (v := .int .i64 n) rfl (by kernel_rfl) (by kernel_rfl) (by kernel_rfl) (fun _ _ _ h => h) (Or.inl ⟨by rfl, ?_⟩) hHeld ?_
        · (intro w' hSw; obtain ⟨y1, y2⟩ := hSw; go_simp)
        try simp only [Act.put, List.setIfInBounds_toArray, List.set_cons_zero, List.set_cons_succ]
        refine wpAnyH_take (i := 4) (v := .slice (some ⟨b0, o0, none⟩) v c) rfl (by kernel_rfl) (by kernel_rfl) (by kernel_rfl) (fun _ _ _ h => h) (Or.inl ⟨by rfl, ?_⟩) hHeld ?_
        · (intro w' hSw; obtain ⟨y1, y2⟩ := hSw; go_simp)
        try simp only [Act.put, List.setIfInBounds_toArray, List.set_cons_zero, List.set_cons_succ]
        refine wpAnyH_take (i := 5) (v := .pointer (some ⟨b0, o0, none⟩)) rfl (by kernel_rfl) (by kernel_rfl) (by kernel_rfl) (fun _ _ _ h => h) (Or.inl ⟨by rfl, ?_⟩) hHeld ?_
        · (intro w' hSw; obtain ⟨y1, y2⟩ := hSw; go_simp)
        try simp only [Act.put, List.setIfInBounds_toArray, List.set_cons_zero, List.set_cons_succ]
        refine wpAnyH_take (i := 6) (v := .slice A0 n c0) rfl (by kernel_rfl) (by kernel_rfl) (by kernel_rfl) (fun _ _ _ h => h) (Or.inl ⟨by rfl, ?_⟩) hHeld ?_
        · (intro w' hSw; obtain ⟨y1, y2⟩ := hSw; go_simp)
        try simp only [Act.put, List.setIfInBounds_toArray, List.set_cons_zero, List.set_cons_succ]
        refine wpAnyH_take (i := 7) (v := .int .i64 n) rfl (by kernel_rfl) (by kernel_rfl) (by kernel_rfl) (fun _ _ _ h => h) (Or.inl ⟨by rfl, ?_⟩) hHeld ?_
        · (intro w' hSw; obtain ⟨y1, y2⟩ := hSw; go_simp)
        try simp only [Act.put, List.setIfInBounds_toArray, List.set_cons_zero, List.set_cons_succ]
        refine wpAnyH_take (i := 10) (v := .int .i64 0) rfl (by kernel_rfl) (by kernel_rfl) (by kernel_rfl) (fun _ _ _ h => h) (Or.inl ⟨by rfl, ?_⟩) hHeld ?_
        · (intro w' hSw; obtain ⟨y1, y2⟩ := hSw; go_simp)
        try simp only [Act.put, List.setIfInBounds_toArray, List.set_cons_zero, List.set_cons_succ]
        refine wpAnyH_ready (rs := [8]) (by kernel_rfl) (by simp) ?_
        refine AllReadyH.cons rfl (fun K hK => ?_) AllReadyH.nil
        have hBd := hHeld.2
        clear hHeld
        go_simp
        refine (HSO.out _).mono ?_
        rintro e w5 ⟨X, c5, rfl, hc5, hR5, _, hB5⟩
        rw [someN_ords] at hR5 hc5 ⊢
        rw [HN.out] at hc5 ⊢
        have hB6 := hBd.trans (hB5.mono hBd.size)
        have HR5 := hide hR5
        have HB6 := hide hB6
        clear hR5 hB5 hB6 hBd
        go_wp2_with fail
        refine hK.out _ _ ⟨(HB6.out.cell (p := ⟨b0, o0, none⟩) (by show b0 < _; omega)).trans q0, HB6.out⟩ (fun hHeld => ?_)
        clear hK K
        try simp only [Act.put, List.setIfInBounds_toArray, List.set_cons_zero, List.set_cons_succ]
        refine wpAnyH_ready (rs := [9]) (by kernel_rfl) (by simp) ?_
        refine AllReadyH.cons rfl (fun K hK => ?_) AllReadyH.nil
        go_simp
        refine hK.out _ _ ⟨(HB6.out.cell (p := ⟨b0, o0, none⟩) (by show b0 < _; omega)).trans q0, HB6.out⟩ (fun hHeld => ?_)
        clear hK K
        try simp only [Act.put, List.setIfInBounds_toArray, List.set_cons_zero, List.set_cons_succ]
        refine wpAnyH_done (by kernel_rfl) ?_ _
        refine NoPanic.normal ?_
        go_wp2_with fail
        go_meet
        exact ⟨X, c5, rfl, rfl, rfl, hc5, HR5.out, HB6.out⟩
      case rest =>
        obtain ⟨X, c1, rfl, rfl, rfl, hc1, hR, hb1⟩ := hcut
        obtain ⟨wp, rfl⟩ : ∃ wp : World, wp = wr := ⟨_, rfl⟩
        have HR := hide hR
        have HBS := hide (HB.out.trans (hb1.mono hszr))
        clear hR hb1 q0
        obtain ⟨wq, hwq⟩ : ∃ wq : World, wq = wc := ⟨_, rfl⟩
        subst hwq
        go_wp2_with fail
        go_loopw [30] (fun i wr => ∃ j : Nat, j ≤ N ∧ i = .int .i64 j ∧ Hid (∀ q, q < j → gains W v n r k ((ordsN n).getD q []) = false) ∧ Below wq.heap.size wq wr) (fun i _ => N - (intOf i).toNat)
        case atStart => exact ⟨0, Nat.zero_le _, rfl, fun q hq => absurd hq (by omega), Below.refl _ _⟩
        case round =>
          obtain ⟨j, hj, rfl, hno2, hbq⟩ := hrel
          have HBQ := hide hbq
          have hszq := hbq.size
          have hbw : Below w.heap.size w wr := HBS.out.trans (hbq.mono HBS.out.size)
          have hszw := hbw.size
          have HBW := hide hbw
          by_cases hjN : j < N
          · obtain ⟨b3, o3, A3, n3, c3, rfl, hb3, hc3, hx3, hle3, hI3⟩ := HR.out.at_ (k := j) (by rw [upp_length, HN.out]; exact hjN)
            rw [upp_getD] at hx3 hI3
            have hxo : Ord ((ordsN n).getD j []) n := mem_ordsN.1 (getD_mem (by rw [HN.out]; exact hjN))
            obtain rfl : n = n3 := by have := hx3.out; rw [up_length, hxo.len] at this; exact this
            replace hc3 := (hbq.cell (p := ⟨b3, o3 + j, none⟩) hb3).trans hc3
            have hI3' : IntsA wr wr.heap.size A3 (up ((ordsN n).getD j [])) := hI3.next hbq
            obtain ⟨x, hx⟩ : ∃ x, (ordsN n).getD j [] = x := ⟨_, rfl⟩
            rw [hx] at hxo hI3'
            have HX := hide hx
            have HXO := hide hxo
            have HI3 := hide hI3'
            have hus1 : ∀ i u, us[i]? = some u → ∃ b o, (some ⟨b0, o0, none⟩ : Option Addr) = some ⟨b, o, none⟩ ∧ (wr.alloc (.cells #[] 23)).cell? ⟨b, o + i, none⟩ = some u := fun i u hu =>
              ⟨b0, o0, rfl, (World.cell?_alloc_lt _ _ _ (by show b0 < _; omega)).trans ((hbw.cell (p := ⟨b0, o0 + i, none⟩) hb0).trans (HCL.out i u hu))⟩
            have hown : (wr.alloc (.cells #[] 23)).ownsRow wr.heap.size 23 1 (.slice (some ⟨wr.heap.size, 0, none⟩) 0 0) 0 [] :=
              ⟨rfl, .inr ⟨wr.heap.size, 0, #[], rfl, Nat.le_refl _, alloc_new _ _ _ rfl, Nat.le_refl _, by decide, rfl, rfl⟩⟩
            have HO := hide hown
            have HUS := hide hus1
            clear hx hxo hI3 hI3' hx3 hus1 hown hbq hbw
            go_upto_region 9 with ((at_builtin); refine wpList_appVals _ _ 22 23 (.slice none 0 0) 24 rfl rfl Try.underlying22 info_ints rfl wr.heap.size (.slice (some ⟨wr.heap.size, 0, none⟩) 0 0) 0 [] rfl (some ⟨b0, o0, none⟩) v c us rfl HUL.out (by omega) HUS.out HU1.out HO.out (by omega) (by omega) (by simp) ?_; intro g cz wz hown1 hcz hg1 hgr; have HOW := hide hown1; have HG := hide hgr; have HG1 := hide hg1; clear hown1 hgr hg1)
            have hszz := HG.out.size
            simp only [World.size_alloc] at hszz
            have hgz : wr.heap.size ≤ g := by
              rcases HG1.out with h | h
              · have e9 : wr.heap.size = g := by simpa [Value.ownBlock] using h
                omega
              · simp at h; omega
            have hbz : Below wr.heap.size wr wz := ((Below.refl _ _).alloc (Nat.le_refl _) _).grown HG.out (by simp) (fun q hq => by have e9 : wr.heap.size = q := (by simpa [Value.ownBlock] using hq); omega)
            have hoz := HOW.out
            simp only [Nat.zero_add, List.nil_append] at hoz hcz ⊢
            obtain ⟨zg, cur, hzv, hzg, hzh, hzl, hzm⟩ := own_parts hoz h1
            obtain rfl : g = zg := by injection hzv with e; injection e with e
            have hput : RowsA (wz.setCell ⟨g, k, none⟩ (.slice A3 n c3)) wz.heap.size (some ⟨g, 0, none⟩) (upp (W.set k x)) := by
              intro q hq
              rw [upp_length, List.length_set, HW.out.len] at hq
              rw [upp_getD, set_row HW.out.len x hq]
              have hset := blk_set hzh k (.slice A3 n c3)
              have hcell : (wz.setCell ⟨g, k, none⟩ (.slice A3 n c3)).cell? ⟨g, 0 + q, none⟩ = (cur.setIfInBounds k (.slice A3 n c3))[q]? := by rw [Nat.zero_add]; exact blk_cell hset q
              have hzlt := lt_of_block hzh
              by_cases e : q = k
              · subst e
                rw [if_pos rfl, up_length, HXO.out.len]
                refine ⟨g, 0, A3, c3, rfl, hzlt, by rw [hcell, Array.getElem?_setIfInBounds_self_of_lt (by omega)], hle3, (HI3.out.below hbz).keepA fun b o e => ?_⟩
                obtain ⟨b', o', e', hb', _⟩ := HI3.out 0 (by rw [up_length, HXO.out.len]; omega)
                rw [e] at e'
                injection e' with e'; injection e' with e1 e2
                exact ⟨by omega, blk_far _ (by omega)⟩
              · rw [if_neg e, up_length, (HW.out.rows q hq).len]
                obtain ⟨A', c', e1, hc', hI⟩ := HAT.out q hq
                refine ⟨g, 0, A', c', rfl, hzlt, by rw [hcell, Array.getElem?_setIfInBounds_ne (fun h => e h.symm), hzm q hq, e1], hc', (hI.keep (w' := wz.setCell ⟨g, k, none⟩ (.slice A3 n c3)) fun p hp => World.cell?_of_block ((blk_far _ (by omega)).trans ((hbz.block _ (by omega)).trans (HBW.out.block _ hp)))).more (by omega)⟩
            obtain ⟨w9, hw9⟩ : ∃ w9, w9 = wz.setCell ⟨g, k, none⟩ (.slice A3 n c3) := ⟨_, rfl⟩
            have hs9 : w9.heap.size = wz.heap.size := by subst hw9; simp [World.setCell]
            have hb9 : Below wr.heap.size wr w9 := by subst hw9; exact hbz.setCell (p := ⟨g, k, none⟩) hgz _
            rw [← hw9, ← hs9] at hput
            obtain ⟨gv, hgv⟩ : ∃ gv, winN (W.set k x) v n r = gv := ⟨_, rfl⟩
            have HW2 : Hid (∀ w', Below w9.heap.size w9 w' → Calls Try.prog 36 #[.slice (some ⟨g, 0, none⟩) v cz, .int .i64 (r : Nat)] w' fun e w'' => e = .returned (.int .i64 gv) ∧ Below w9.heap.size w9 w'') := fun w' hw' => by
              have := HWN.out (some ⟨g, 0, none⟩) cz (W.set k x) w' (bset_ok HW.out HXO.out) (hput.next hw')
              rw [hgv] at this
              exact this.mono fun e w'' h9 => ⟨h9.1, hw'.trans (h9.2.mono hw'.size)⟩
            have hb09 : Below w.heap.size w w9 := HBW.out.trans (hb9.mono hszw)
            have IX : Hid (∀ (y : Int) w', Below w9.heap.size w9 w' → Calls Try.prog 68 #[.slice Ak n ck, .int .i64 y] w' fun e w'' => e = .returned (.int .i64 (idx (up (W.getD k [])) y)) ∧ Below w9.heap.size w9 w'') := fun y w' hw' =>
              (rank_any Ak n ck w.heap.size (up (W.getD k [])) y w' (by rw [up_length]; exact (HW.out.rows k hlt).len) (by omega) (HK3.out.below (hb09.trans (hw'.mono hb09.size)))).mono fun e w'' h9 => ⟨h9.1, h9.2 ▸ hw'⟩
            obtain ⟨p1, hp1⟩ : ∃ p1, idx (up (W.getD k [])) gv = p1 := ⟨_, rfl⟩
            obtain ⟨p2, hp2⟩ : ∃ p2, idx (up (W.getD k [])) h = p2 := ⟨_, rfl⟩
            have HP1 := hide hp1
            have HP2 := hide hp2
            have HG9 : Hid (gains W v n r k x = decide (p1 < p2)) := by show _ = _; rw [gains, hgv, HH.out, hp1, hp2]
            have HB9 := hide hb9
            have HW9 := hide hw9
            have zk : ∃ u, wz.cell? ⟨g, k, none⟩ = some u := ⟨_, (blk_cell hzh k).trans (Array.getElem?_eq_getElem (by omega))⟩
            obtain ⟨uk, zk⟩ := zk
            have zf := blk_free hzh k
            have zAk := (hb09.cell (p := ⟨b0, o0 + k, none⟩) hb0).trans hck
            have hb09l : b0 < w9.heap.size := by have := hb09.size; omega
            have hkv9 : (k : Int) < (v : Nat) := by omega
            clear hput hgv hp1 hp2 hzh hzm hoz hb9 hbz
            go_wp2_with fail
            rw [← HW9.out]
            clear hw9 zk zf
            by_cases hgt : p1 < p2
            · go_wp2_with fail
              refine wp_region_below (by kernel_rfl) (by kernel_rfl) ?_
              refine wpQuiet_val' (.slice (some ⟨b0, o0, none⟩) v c) (by rfl) (fun w' hw' => by go_simp) ?_
              simp only [put_lit, List.set_cons_succ, List.set_cons_zero]
              refine wpQuiet_val' (.int .i64 (k : Nat)) (by rfl) (fun w' hw' => by go_simp) ?_
              simp only [put_lit, List.set_cons_succ, List.set_cons_zero]
              refine wpQuiet_val' (.pointer (some ⟨b0, o0 + k, none⟩)) (by rfl) (fun w' hw' => by go_simp) ?_
              simp only [put_lit, List.set_cons_succ, List.set_cons_zero]
              refine wpQuiet_val' (.slice Ak n ck) (by rfl) (fun w' hw' => by have e0 := (hw'.cell (p := ⟨b0, o0 + k, none⟩) hb09l).trans zAk; go_simp) ?_
              simp only [put_lit, List.set_cons_succ, List.set_cons_zero]
              refine wpQuiet_val' (.slice (some ⟨g, 0, none⟩) v cz) (by rfl) (fun w' hw' => by go_simp) ?_
              simp only [put_lit, List.set_cons_succ, List.set_cons_zero]
              refine wpQuiet_val' (.int .i64 (r : Nat)) (by rfl) (fun w' hw' => by go_simp) ?_
              simp only [put_lit, List.set_cons_succ, List.set_cons_zero]
              refine wpQuiet_call' 36 #[.slice (some ⟨g, 0, none⟩) v cz, .int .i64 (r : Nat)] (.int .i64 gv) (by rfl) (fun w' hw' => by go_simp) (fun w' hw' => HW2.out w' hw') ?_
              simp only [put_lit, List.set_cons_succ, List.set_cons_zero]
              refine wpQuiet_call' 68 #[.slice Ak n ck, .int .i64 gv] (.int .i64 p1) (by rfl) (fun w' hw' => by go_simp) (fun w' hw' => (IX.out gv w' hw').mono fun e w9 h9 => ⟨by rw [h9.1, HP1.out], h9.2⟩) ?_
              simp only [put_lit, List.set_cons_succ, List.set_cons_zero]
              refine wpQuiet_val' (.slice (some ⟨b0, o0, none⟩) v c) (by rfl) (fun w' hw' => by go_simp) ?_
              simp only [put_lit, List.set_cons_succ, List.set_cons_zero]
              refine wpQuiet_val' (.int .i64 (k : Nat)) (by rfl) (fun w' hw' => by go_simp) ?_
              simp only [put_lit, List.set_cons_succ, List.set_cons_zero]
              refine wpQuiet_val' (.pointer (some ⟨b0, o0 + k, none⟩)) (by rfl) (fun w' hw' => by go_simp) ?_
              simp only [put_lit, List.set_cons_succ, List.set_cons_zero]
              refine wpQuiet_val' (.slice Ak n ck) (by rfl) (fun w' hw' => by have e0 := (hw'.cell (p := ⟨b0, o0 + k, none⟩) hb09l).trans zAk; go_simp) ?_
              simp only [put_lit, List.set_cons_succ, List.set_cons_zero]
              refine wpQuiet_val' (.int .i64 h) (by rfl) (fun w' hw' => by go_simp) ?_
              simp only [put_lit, List.set_cons_succ, List.set_cons_zero]
              refine wpQuiet_call' 68 #[.slice Ak n ck, .int .i64 h] (.int .i64 p2) (by rfl) (fun w' hw' => by go_simp) (fun w' hw' => (IX.out h w' hw').mono fun e w9 h9 => ⟨by rw [h9.1, HP2.out], h9.2⟩) ?_
              simp only [put_lit, List.set_cons_succ, List.set_cons_zero]
              refine wpQuiet_val' (.bool true) (by rfl) (fun w' hw' => by go_simp) ?_
              simp only [put_lit, List.set_cons_succ, List.set_cons_zero]
              refine wpQuiet_nil ?_
              intro wB hbB
              go_wp2
              go_ret3
              have hln := lieN_some hlt hno.out (find_at (by rw [HN.out]; exact hjN) (by rw [HX.out, HG9.out]; simpa using hgt) hno2.out)
              refine ⟨(hb09.trans (hbB.mono hb09.size)), ?_⟩
              rw [hln]
              refine ⟨A3, c3, rfl, hle3, ?_⟩
              rw [HX.out]
              exact HI3.out.next (HB9.out.trans (hbB.mono HB9.out.size))
            · go_wp2_with fail
              refine wp_region_below (by kernel_rfl) (by kernel_rfl) ?_
              refine wpQuiet_val' (.slice (some ⟨b0, o0, none⟩) v c) (by rfl) (fun w' hw' => by go_simp) ?_
              simp only [put_lit, List.set_cons_succ, List.set_cons_zero]
              refine wpQuiet_val' (.int .i64 (k : Nat)) (by rfl) (fun w' hw' => by go_simp) ?_
              simp only [put_lit, List.set_cons_succ, List.set_cons_zero]
              refine wpQuiet_val' (.pointer (some ⟨b0, o0 + k, none⟩)) (by rfl) (fun w' hw' => by go_simp) ?_
              simp only [put_lit, List.set_cons_succ, List.set_cons_zero]
              refine wpQuiet_val' (.slice Ak n ck) (by rfl) (fun w' hw' => by have e0 := (hw'.cell (p := ⟨b0, o0 + k, none⟩) hb09l).trans zAk; go_simp) ?_
              simp only [put_lit, List.set_cons_succ, List.set_cons_zero]
              refine wpQuiet_val' (.slice (some ⟨g, 0, none⟩) v cz) (by rfl) (fun w' hw' => by go_simp) ?_
              simp only [put_lit, List.set_cons_succ, List.set_cons_zero]
              refine wpQuiet_val' (.int .i64 (r : Nat)) (by rfl) (fun w' hw' => by go_simp) ?_
              simp only [put_lit, List.set_cons_succ, List.set_cons_zero]
              refine wpQuiet_call' 36 #[.slice (some ⟨g, 0, none⟩) v cz, .int .i64 (r : Nat)] (.int .i64 gv) (by rfl) (fun w' hw' => by go_simp) (fun w' hw' => HW2.out w' hw') ?_
              simp only [put_lit, List.set_cons_succ, List.set_cons_zero]
              refine wpQuiet_call' 68 #[.slice Ak n ck, .int .i64 gv] (.int .i64 p1) (by rfl) (fun w' hw' => by go_simp) (fun w' hw' => (IX.out gv w' hw').mono fun e w9 h9 => ⟨by rw [h9.1, HP1.out], h9.2⟩) ?_
              simp only [put_lit, List.set_cons_succ, List.set_cons_zero]
              refine wpQuiet_val' (.slice (some ⟨b0, o0, none⟩) v c) (by rfl) (fun w' hw' => by go_simp) ?_
              simp only [put_lit, List.set_cons_succ, List.set_cons_zero]
              refine wpQuiet_val' (.int .i64 (k : Nat)) (by rfl) (fun w' hw' => by go_simp) ?_
              simp only [put_lit, List.set_cons_succ, List.set_cons_zero]
              refine wpQuiet_val' (.pointer (some ⟨b0, o0 + k, none⟩)) (by rfl) (fun w' hw' => by go_simp) ?_
              simp only [put_lit, List.set_cons_succ, List.set_cons_zero]
              refine wpQuiet_val' (.slice Ak n ck) (by rfl) (fun w' hw' => by have e0 := (hw'.cell (p := ⟨b0, o0 + k, none⟩) hb09l).trans zAk; go_simp) ?_
              simp only [put_lit, List.set_cons_succ, List.set_cons_zero]
              refine wpQuiet_val' (.int .i64 h) (by rfl) (fun w' hw' => by go_simp) ?_
              simp only [put_lit, List.set_cons_succ, List.set_cons_zero]
              refine wpQuiet_call' 68 #[.slice Ak n ck, .int .i64 h] (.int .i64 p2) (by rfl) (fun w' hw' => by go_simp) (fun w' hw' => (IX.out h w' hw').mono fun e w9 h9 => ⟨by rw [h9.1, HP2.out], h9.2⟩) ?_
              simp only [put_lit, List.set_cons_succ, List.set_cons_zero]
              refine wpQuiet_val' (.bool false) (by rfl) (fun w' hw' => by go_simp) ?_
              simp only [put_lit, List.set_cons_succ, List.set_cons_zero]
              refine wpQuiet_nil ?_
              intro wB hbB
              go_wp2
              go_roundw
              case rel =>
                refine ⟨j + 1, by omega, by go_num, fun q hq => ?_, (HBQ.out.trans (HB9.out.mono hszq)).trans (hbB.mono (by have := HB9.out.size; omega))⟩
                by_cases e : q = j
                · subst e; rw [HX.out, HG9.out]; simpa using hgt
                · exact hno2.out q (by omega)
              case measure => simp [intOf]; omega
          · obtain rfl : N = j := by omega
            have hfn := find_no (p := gains W v n r k) (xs := ordsN n) (fun q hq => hno2.out q (by rw [← HN.out]; exact hq))
            have HFN := hide hfn
            clear hfn hbq hbw
            go_wp2
            go_roundw
            case rel =>
              refine ⟨k + 1, by omega, by go_num, fun i hi => ?_, HBW.out⟩
              by_cases e : i = k
              · subst e; exact HFN.out
              · exact hno.out i (by omega)
            case measure => simp [intOf]; omega
    · obtain rfl : v = k := by omega
      go_wp2
      go_ret3
      refine ⟨HB.out, ?_⟩
      rw [lieN_none hno.out]; rfl
end Go.Proofs.Ytejijddfepgnkaa
