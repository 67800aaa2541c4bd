/-
  The walk of SwapChoice.
-/
import Derived.Test.YtilnbiaabhdfgaaFine
import Derived.Test.YtilnbiaabhdfgaaParetoPlain
import Derived.Test.YtilnbiaabhdfgaaCompare
import Derived.Deep.RegionHeld3
namespace Go.Proofs.Ytilnbiaabhdfgaa
open Go.RowKit
set_option linter.unusedVariables false
set_option linter.unusedSimpArgs false

theorem find_some' {n : Nat} {l : List Nat} {w w' : World} {e : Ending} (h : FindRes (some l) w e w') (hl : l.length = n) : RowOk n l w e w' := by
  obtain ⟨O, c, h1, h2, h3⟩ := h
  subst hl
  exact ⟨O, c, h1, h2, h3⟩
theorem find_none' {w w' : World} {e : Ending} (h : FindRes none w e w') : ∃ O c, e = .returned (.tuple #[.slice O 0 c, .int .i64 4]) ∧ Below w.heap.size w w' := by
  obtain ⟨O, c, h1, h2, h3⟩ := h
  exact ⟨O, c, h1, h3⟩
theorem tallyF_ge (n : Nat) (f : List Nat → List Nat) (ls : List (List Nat)) : ∀ (s : Nat → Nat → Nat) (i g : Nat), s i g ≤ tallyF n f ls s i g := by
  induction ls with
  | nil => intro s i g; exact Nat.le_refl _
  | cons l ls ih =>
    intro s i g
    have := ih ((tallyStep n f s l).2) i g
    have h2 : s i g ≤ (tallyStep n f s l).2 i g := by simp only [tallyStep]; omega
    exact Nat.le_trans h2 this
theorem tallyF_mem {n : Nat} {f : List Nat → List Nat} {i : Nat} (hi : i < n) {d : List Nat} (ls : List (List Nat)) : ∀ s, d ∈ ls → 1 ≤ tallyF n f ls s i ((f d).getD i 0) := by
  induction ls with
  | nil => intro s h; cases h
  | cons l ls ih =>
    intro s h
    rcases List.mem_cons.1 h with rfl | h
    · have := tallyF_ge n f ls ((tallyStep n f s d).2) i ((f d).getD i 0)
      have h2 : 1 ≤ (tallyStep n f s d).2 i ((f d).getD i 0) := by simp [tallyStep, hi]
      exact Nat.le_trans h2 this
    · exact ih _ h
theorem chancesN_at {W : List (List Nat)} {n i g : Nat} (hW : WOk W n) (hi : i < n) (hg : g < n) : ((chancesN W).getD i []).getD g 0 = tallyF n (chooseN W) (ordsN n) (fun _ _ => 0) i g := by
  rw [chancesN, hW.len, tallyN_row _ _ hi]; simp [List.getD_eq_getElem?_getD, hg]
theorem chances_counted {W : List (List Nat)} {n i : Nat} (hW : WOk W n) {d : List Nat} (hd : Ord d n) (hi : i < n) : 1 ≤ ((chancesN W).getD i []).getD ((chooseN W d).getD i 0) 0 := by
  rw [chancesN_at hW hi ((chooseN_ord hW hd).getD_lt hi)]
  exact tallyF_mem hi _ _ (mem_ordsN.2 hd)
theorem chances_row {W : List (List Nat)} {n i : Nat} (hW : WOk W n) (hi : i < n) : ((chancesN W).getD i []).length = n := by
  rw [chancesN, hW.len, tallyN_row _ _ hi]; simp
/-- The first one gets their first wish. -/
theorem first_wish {W : List (List Nat)} {n : Nat} (hW : WOk W n) {d : List Nat} (hd : Ord d n) : (chooseN W d).getD (d.getD 0 0) 0 = (W.getD (d.getD 0 0) []).getD 0 0 := by
  have h1 := hW.pos
  have hi := hd.getD_lt (i := 0) (by omega)
  rw [chooseN_at hW d hi]
  have hc := hW.cho hd
  have hp0 : place d (d.getD 0 0) = 0 := by have := place_first (l := d) (i := 0) (g := d.getD 0 0) (by rw [hd.len]; omega) rfl; omega
  generalize d.getD 0 0 = i at *
  have hr := hW.rows i hi
  have hy := hr.getD_lt (i := 0) (by omega)
  have hpy : place (W.getD i []) ((W.getD i []).getD 0 0) = 0 := by have := place_first (l := W.getD i []) (i := 0) (g := (W.getD i []).getD 0 0) (by rw [hr.len]; omega) rfl; omega
  apply place_inj hr (hc.lt i hi) hy
  rw [hpy]
  apply Classical.byContradiction
  intro hne
  obtain ⟨j, _, hj, _⟩ := hc.pre i _ hi hy (by rw [hpy]; omega)
  omega

set_option maxRecDepth 100000 in
set_option maxHeartbeats 3200000 in
theorem swapChoice_any (A : Option Addr) (n c : Nat) (L : List (List Int)) (X : Option Addr) (m cm : Nat) (l : List Int) (w : World) (hn : L.length = n) (hlen : n ≤ 9223372036854775807) (hrow : ∀ l ∈ L, l.length ≤ 9223372036854775807) (hA : RowsA w w.heap.size A L)
    (hm : l.length = m) (hmc : m ≤ cm) (hlm : m ≤ 9223372036854775807) (hX : IntsA w w.heap.size X l) :
    Calls Try.prog 18 #[.slice A n c, .slice X m cm] w fun e w' => e = .returned (.bool true) ∧ Below w.heap.size w w' := by
  obtain ⟨q, hq⟩ : ∃ q, (fewL L).length = q := ⟨_, rfl⟩
  obtain ⟨q2, hq2⟩ : ∃ q2, (l.take 7).length = q2 := ⟨_, rfl⟩
  have HFE := hide (few_in (c := c) hn hlen hrow hq hA)
  have HLI := hide (list_in hm hmc hlm hq2 hX)
  cases hf : fineB L l
  · have HCH := hide (fewChoose_no hq hq2 hf)
    clear hf hrow hn hA hq hq2 hm hX
    go_enter Try.func18, Try.ntmps18
    go_wp2_with fail
    refine (HFE.out _ (Below.refl _ _)).mono ?_
    rintro e w1 ⟨A1, c1, rfl, hq1, hR1, hb1⟩
    go_wp2_with fail
    refine (HLI.out _ hb1).mono ?_
    rintro e w2 ⟨X2, c2, rfl, hq2, hI2, hb2⟩
    have hR2 := hR1.next hb2
    have hb12 := hb1.trans (hb2.mono hb1.size)
    go_wp2_with fail
    refine (HCH.out _ _ _ _ _ hR2 hI2).mono ?_
    rintro e w3 ⟨rfl, hb3⟩
    have hb13 := hb12.trans (hb3.mono hb12.size)
    clear hR1 hR2 hI2 hb1 hb2 hb12 hb3
    go_wp2_with (go_at_call 21; refine (awake_any _).mono ?_; rintro e w7 ⟨rfl, hb7⟩)
    go_ret
    exact ⟨rfl, hb13.trans (hb7.mono hb13.size)⟩
  · obtain ⟨hv, hol⟩ := fine_parts.1 hf
    obtain ⟨he1, he2⟩ := fine_same hf
    rw [he1] at hq HFE
    rw [he2] at hq2 HLI
    rw [hn] at hol hq
    subst hq
    rw [hm] at hq2
    obtain ⟨W, hW⟩ : ∃ W, NatsOf L n W := ⟨_, nats_of hv hn⟩
    obtain ⟨hul, hd⟩ := ord_of hol
    obtain ⟨d, hdd⟩ : ∃ d, d = toN l := ⟨_, rfl⟩
    rw [← hdd] at hul hd
    have hmn : m = n := by rw [← hm, ← hul, up_length, hd.len]
    subst hmn
    subst hq2
    subst hul
    have h5 := hW.ok.le
    have h1 := hW.ok.pos
    obtain ⟨o, hoo⟩ : ∃ o, chooseN W d = o := ⟨_, rfl⟩
    have ho : Ord o m := by rw [← hoo]; exact chooseN_ord hW.ok hd
    have hbn : betterN W m o = none := by rw [← hoo]; exact choose_best hW.ok hd
    have hfw := first_wish hW.ok hd
    rw [hoo] at hfw
    have hcc : ∀ i, i < m → 1 ≤ ((chancesN W).getD i []).getD (o.getD i 0) 0 := fun i hi => by rw [← hoo]; exact chances_counted hW.ok hd hi
    have hcl : ∀ i, i < m → ((chancesN W).getD i []).length = m := fun i hi => chances_row hW.ok hi
    have hclen : (chancesN W).length = m := by rw [chancesN, tallyN_len, hW.ok.len]
    obtain ⟨lo, hor⟩ : ∃ lo, orderN W m o = some lo := by
      rcases better_or_order hW.ok ho with ⟨_, h⟩ | ⟨⟨a, ha⟩, _⟩
      · exact h
      · rw [hbn] at ha; cases ha
    have hlo := (orderN_some hor).1
    have hcmp : cmpI (up lo) (up d) ≤ 0 := first_least h5 hor hd (by simpa using hoo)
    have HCH := hide (okChoose hW hd)
    have HBE := hide (okBetter hW ho)
    have HOR := hide (okOrder hW ho)
    have HCA := hide (okChances hW)
    rw [hoo] at HCH
    rw [hbn] at HBE
    rw [hor] at HOR
    have HLL := hide hlo.len
    have HDL := hide hd.len
    have HOL := hide ho.len
    have HO := hide ho
    have HD := hide hd
    have HW := hide hW.ok
    have HA : Hid (RowsA w w.heap.size A (upp W)) := by rw [hW.eq]; exact hA
    have HX := hide hX
    have HCC := hide hcc
    have HCL := hide hcl
    have HCN := hide hclen
    have HFW := hide hfw
    have HCM := hide hcmp
    generalize chancesN W = T at *
    clear hf hrow hn hA hm hX hv hol he1 he2 hW hdd hoo ho hbn hfw hcc hcl hclen hor hlo hcmp hd
    go_enter Try.func18, Try.ntmps18
    go_wp2_with fail
    refine (HFE.out _ (Below.refl _ _)).mono ?_
    rintro e w1 ⟨A1, c1, rfl, hq1, hR1, hb1⟩
    go_wp2_with fail
    refine (HLI.out _ hb1).mono ?_
    rintro e w2 ⟨X2, c2, rfl, hq2, hI2, hb2⟩
    have hR2 := hR1.next hb2
    have hb12 := hb1.trans (hb2.mono hb1.size)
    go_wp2_with fail
    refine (HCH.out _ _ _ _ _ hR2 hI2).mono ?_
    rintro e w3 ⟨O3, k3, rfl, hI3, hb3⟩
    have hb13 := hb12.trans (hb3.mono hb12.size)
    clear hR1 hR2 hI2 hb1 hb2 hb12 hb3
    go_wp2_with fail
    refine (HFE.out _ hb13).mono ?_
    rintro e w4 ⟨A4, c4, rfl, hq4, hR4, hb4⟩
    have hb14 := hb13.trans (hb4.mono hb13.size)
    have hI4 := hI3.next hb4
    go_wp2_with fail
    refine (HBE.out _ _ _ _ _ hR4 hI4).mono ?_
    intro e w5 hfr
    obtain ⟨O5, k5, rfl, hb5⟩ := find_none' hfr
    have hb15 := hb14.trans (hb5.mono hb14.size)
    have hI5 := hI4.next hb5
    clear hb13 hb14 hb4 hb5 hR4 hI3 hI4 hfr
    go_wp2_with fail
    refine (HFE.out _ hb15).mono ?_
    rintro e w6 ⟨A6, c6, rfl, hq6, hR6, hb6⟩
    have hb16 := hb15.trans (hb6.mono hb15.size)
    have hI6 := hI5.next hb6
    go_wp2_with fail
    refine (HCA.out _ _ _ hR6).mono ?_
    rintro e w7 ⟨T7, k7, rfl, hk7, hT7, hb7⟩
    have hb17 := hb16.trans (hb7.mono hb16.size)
    have hI7 := hI6.next hb7
    clear hb15 hb16 hb6 hb7 hR6 hI5 hI6
    go_wp2_with fail
    refine (HFE.out _ hb17).mono ?_
    rintro e w8 ⟨A8, c8, rfl, hq8, hR8, hb8⟩
    have hb18 := hb17.trans (hb8.mono hb17.size)
    have hI8 := hI7.next hb8
    go_wp2_with fail
    refine (HOR.out _ _ _ _ _ hR8 hI8).mono ?_
    intro e w9 hfr
    obtain ⟨O9, k9, rfl, hI9, hb9⟩ := find_some' hfr HLL.out
    have hb19 := hb18.trans (hb9.mono hb18.size)
    have hI9o := hI8.next hb9
    have hT9 := (hT7.next hb8).next hb9
    clear hb17 hb18 hb8 hb9 hR8 hI7 hI8 hT7 hfr
    obtain ⟨cv, hcv⟩ : ∃ cv, cmpI (up lo) (up d) = cv := ⟨_, rfl⟩
    have hcv0 := HCM.out
    rw [hcv] at hcv0
    have HCP := hide (compare_any O9 X m k9 cm _ _ (up lo) (up d) w9 (by rw [up_length]; exact HLL.out) (by rw [up_length]; exact HDL.out) (by omega) hI9 (HX.out.below hb19))
    rw [hcv] at HCP
    have hgt : decide ((0 : Int) < cv) = false := decide_eq_false (by omega)
    clear hcv hI9
    go_wp2_with (go_at_call 47; refine (HCP.out).mono ?_; rintro e w10 ⟨rfl, rfl⟩)
    go_loop [82] (fun i => ∃ k : Nat, k ≤ m ∧ i = .int .i64 k) (fun i => m - (intOf i).toNat)
    case atStart => exact ⟨0, Nat.zero_le _, rfl⟩
    case round =>
      obtain ⟨k, hk, rfl⟩ := hrel
      by_cases hlt : k < m
      · obtain ⟨b1, o1, x1, rfl, hb1, hc1, hx1⟩ := hI9o.at_ (k := k) (by rw [up_length, HOL.out]; exact hlt)
        have e1 := hx1.out
        rw [up_getD] at e1
        have g1 := HO.out.getD_lt hlt
        have hck := HCC.out k hlt
        have hcl := HCL.out k hlt
        obtain ⟨b2, o2, A', n', c', rfl, hb2, hc2, hx2, hle2, hI2⟩ := hT9.at_ (k := k) (by rw [upp_length, HCN.out]; exact hlt)
        rw [upp_getD] at hI2 hx2
        have hn' : n' = m := by rw [← hx2.out, up_length, hcl]
        generalize o.getD k 0 = g at *
        obtain ⟨b3, o3, x3, rfl, hb3, hc3, hx3⟩ := hI2.at_ (k := g) (by rw [up_length, hcl]; exact g1)
        have e3 := hx3.out
        rw [up_getD] at e3
        subst e1; subst hn'
        have h31 : 1 ≤ x3 := by rw [← e3]; omega
        have d1 : decide ((g : Int) < 0) = false := by simp
        have d2 : decide ((g : Int) ≥ (n' : Int)) = false := decide_eq_false (by omega)
        have d3 : decide (x3 < 1) = false := decide_eq_false (by omega)
        clear hx1 hx2 hx3 e3 hI2 hck hcl
        go_wp2
        go_round
        case rel => exact ⟨k + 1, by omega, by go_num⟩
        case measure => simp [intOf] <;> omega
      · obtain rfl : m = k := by omega
        obtain ⟨b1, o1, x1, rfl, hb1, hc1, hx1⟩ := (HX.out.below hb19).at_ (k := 0) (by rw [up_length, HDL.out]; omega)
        have e1 := hx1.out
        rw [up_getD] at e1
        have g1 := HD.out.getD_lt (i := 0) (by omega)
        have hfw := HFW.out
        generalize d.getD 0 0 = g at *
        subst e1
        obtain ⟨b2, o2, x2, rfl, hb2, hc2, hx2⟩ := hI9o.at_ (k := g) (by rw [up_length, HOL.out]; exact g1)
        obtain ⟨b3, o3, A', n', c', rfl, hb3, hc3, hx3, hle3, hI3⟩ := (HA.out.below hb19).at_ (k := g) (by rw [upp_length, HW.out.len]; exact g1)
        rw [upp_getD] at hI3 hx3
        have hr := HW.out.rows g g1
        have hn' : n' = m := by rw [← hx3.out, up_length, hr.len]
        subst hn'
        obtain ⟨b4, o4, x4, rfl, hb4, hc4, hx4⟩ := hI3.at_ (k := 0) (by rw [up_length, hr.len]; omega)
        have e2 := hx2.out
        have e4 := hx4.out
        rw [up_getD] at e2 e4
        rw [hfw, e4] at e2
        subst e2
        have hee : (x4 == x4) = true := by simp
        have hm0 : (0 : Int) < (n' : Int) := by omega
        have hm1 : 0 < n' := by omega
        clear hx1 hx2 hx3 hx4 hI3 hr hfw e4
        simp only [Nat.add_zero] at hc1 hc4
        have l1 := cell_lt hc1
        have l2 := cell_lt hc2
        have l3 := cell_lt hc3
        have l4 := cell_lt hc4
        go_wp2
        go_region_held3 (fun w' => w'.cell? ⟨b1, o1, none⟩ = some (.int .i64 g) ∧ w'.cell? ⟨b2, o2 + g, none⟩ = some (.int .i64 x4) ∧ w'.cell? ⟨b3, o3 + g, none⟩ = some (.slice (some ⟨b4, o4, none⟩) n' c') ∧ w'.cell? ⟨b4, o4, none⟩ = some (.int .i64 x4)) (first | exact ⟨y1, y2, y3, y4⟩ | go_keep)
          (first
            | (go_at_call 21; refine (awake_any _).mono ?_; rintro e w10 ⟨rfl, hb10⟩; have y1 := (hb10.cell (p := ⟨b1, o1, none⟩) l1).trans hc1; have y2 := (hb10.cell (p := ⟨b2, o2 + g, none⟩) l2).trans hc2; have y3 := (hb10.cell (p := ⟨b3, o3 + g, none⟩) l3).trans hc3; have y4 := (hb10.cell (p := ⟨b4, o4, none⟩) l4).trans hc4))
        go_wp2
        go_ret
        exact ⟨rfl, hb19.trans (((Below.refl _ _).drew.trans hb10).mono hb19.size)⟩
end Go.Proofs.Ytilnbiaabhdfgaa
