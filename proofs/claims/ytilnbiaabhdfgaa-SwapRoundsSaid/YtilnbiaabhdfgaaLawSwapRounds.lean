/-
  The walk of SwapRounds.
-/
import Derived.Test.YtilnbiaabhdfgaaFewApi
import Derived.Test.YtilnbiaabhdfgaaTtcLaws
import Derived.Test.YtilnbiaabhdfgaaQuiet
namespace Go.Proofs.Ytilnbiaabhdfgaa
open Go.RowKit
set_option linter.unusedVariables false
set_option linter.unusedSimpArgs false

set_option maxHeartbeats 400000 in
theorem contains_any (A : Option Addr) (n c B : Nat) (l : List Int) (v : Int) (w : World) (hn : l.length = n) (hlen : n ≤ 9223372036854775807) (hA : IntsA w B A l) :
    Calls Try.prog 28 #[.slice A n c, .int .i64 v] w fun e w' => e = .returned (.bool (decide (v ∈ l))) ∧ w = w' := by
  have HC := hide (index_any A n c B l v w hn hlen hA)
  have e : decide (v ∈ l) = decide (0 ≤ idx l v) := by rw [Bool.eq_iff_iff]; simp [idx_nonneg]
  rw [e]
  clear e hn
  generalize idx l v = r at *
  go_enter Try.func28, Try.ntmps28
  go_wp2_with (go_at_call 22; refine (HC.out).mono ?_; rintro e w' ⟨rfl, rfl⟩)
  go_ret
  exact ⟨rfl, rfl⟩

set_option maxRecDepth 100000 in
set_option maxHeartbeats 1600000 in
theorem swapRounds_any (A : Option Addr) (n c : Nat) (L : List (List Int)) (w : World) (hn : L.length = n) (hlen : n ≤ 9223372036854775807) (hrow : ∀ l ∈ L, l.length ≤ 9223372036854775807) (hA : RowsA w w.heap.size A L) :
    Calls Try.prog 5 #[.slice A n c] w fun e w' => e = .returned (.bool true) ∧ Below w.heap.size w w' := by
  obtain ⟨q, hq⟩ : ∃ q, (fewL L).length = q := ⟨_, rfl⟩
  have HFE := hide (few_in (c := c) hn hlen hrow hq hA)
  cases hv : validB L
  · have HT := hide (fewTrade_no hq hv)
    have HR := hide (fewRounds_no hq hv)
    clear hv hrow hn hA hq
    go_enter Try.func5, Try.ntmps5
    go_wp2_with fail
    refine (HFE.out _ (Below.refl _ _)).mono ?_
    rintro e w1 ⟨A1, c1, rfl, hq1, hR1, hb1⟩
    go_wp2_with fail
    refine (HT.out _ _ _ hR1).mono ?_
    rintro e w2 ⟨rfl, hb2⟩
    have hb12 := hb1.trans (hb2.mono hb1.size)
    go_wp2_with fail
    refine (HFE.out _ hb12).mono ?_
    rintro e w3 ⟨A3, c3, rfl, hq3, hR3, hb3⟩
    have hb13 := hb12.trans (hb3.mono hb12.size)
    go_wp2_with fail
    refine (HR.out _ _ _ hR3).mono ?_
    rintro e w4 ⟨rfl, hb4⟩
    have hb14 := hb13.trans (hb4.mono hb13.size)
    clear hb1 hb2 hb3 hb4 hb12 hb13
    go_wp2_with (go_at_call 21; refine (awake_any _).mono ?_; rintro e w6 ⟨rfl, hb6⟩)
    go_ret
    exact ⟨rfl, hb14.trans (hb6.mono hb14.size)⟩
  · have hqn : q = n := by rw [← hq, few_same hv, hn]
    subst hqn
    obtain ⟨hu, hok'⟩ := valid_ok hv
    have hok : WOk (toNN L) q := by rw [← hn]; exact hok'
    have HT := hide (fewTrade_yes hn hv)
    have HR := hide (fewRounds_yes hn hv)
    have HA : Hid (RowsA w w.heap.size A (upp (toNN L))) := by rw [hu]; exact hA
    clear hv hrow hn hA hq hu hok'
    generalize toNN L = W at *
    have h5 := hok.le
    have HN : Hid (W.length = q) := hok.len
    have HROW : Hid (∀ i, i < q → Ord (W.getD i []) q) := hok.rows
    have HLAW := hide (hok.mkt (ord_range _)).rounds_law
    have ht : tradeN W = listF q (traded W (List.range q)).1 := by rw [tradeN, hok.len]
    have hr : roundsN W = listF q (traded W (List.range q)).2 := by rw [roundsN, hok.len]
    rw [ht] at HT
    rw [hr] at HR
    generalize (traded W (List.range q)).1 = t at *
    generalize (traded W (List.range q)).2 = r at *
    clear ht hr hok
    have hqq : ((q : Int) != (q : Int)) = false := by simp
    go_enter Try.func5, Try.ntmps5
    go_wp2_with fail
    refine (HFE.out _ (Below.refl _ _)).mono ?_
    rintro e w1 ⟨A1, c1, rfl, hq1, hR1, hb1⟩
    go_wp2_with fail
    refine (HT.out _ _ _ hR1).mono ?_
    rintro e w2 ⟨O2, k2, rfl, hI2, hb2⟩
    have hb12 := hb1.trans (hb2.mono hb1.size)
    go_wp2_with fail
    refine (HFE.out _ hb12).mono ?_
    rintro e w3 ⟨A3, c3, rfl, hq3, hR3, hb3⟩
    have hb13 := hb12.trans (hb3.mono hb12.size)
    go_wp2_with fail
    refine (HR.out _ _ _ hR3).mono ?_
    rintro e w4 ⟨O4, k4, rfl, hI4, hb4⟩
    have hb14 := hb13.trans (hb4.mono hb13.size)
    have hI2' := (hI2.next hb3).next hb4
    clear hb1 hb2 hb3 hb4 hb12 hb13 hI2 hR1 hR3
    go_wp2
    go_loopw [7, 56] (fun m i wr => ∃ k M : Nat, k ≤ q ∧ i = .int .i64 k ∧ m = .int .i64 M ∧ M ≤ q ∧ Below w4.heap.size w4 wr ∧ Hid (M = 0 ∨ ∃ i, i < q ∧ r i = M)) (fun _ i _ => q - (intOf i).toNat)
    case atStart => exact ⟨0, 0, Nat.zero_le _, rfl, rfl, Nat.zero_le _, Below.refl _ _, .inl rfl⟩
    case round =>
      obtain ⟨k, M, hk, rfl, rfl, hMq, hwr, HM⟩ := hrel
      by_cases hlt : k < q
      · obtain ⟨hl1, hl2, hl3⟩ := HLAW.out.1 k hlt
        have hrk := HLAW.out.2.2 k hlt
        have hor := HROW.out k hlt
        have hb4 := hb14.trans (hwr.mono hb14.size)
        obtain ⟨b, o, x, rfl, hb, hc, hx⟩ := (hI2'.below hwr).at_ (k := k) (by simp [listF]; exact hlt)
        obtain ⟨b2, o2, A', n', c', rfl, hb2', hc2, hx2, hle2, hRW⟩ := (HA.out.below hb4).at_ (k := k) (by rw [upp_length, HN.out]; exact hlt)
        rw [upp_getD] at hRW hx2
        obtain ⟨b3, o3, x3, rfl, hb3, hc3, hx3⟩ := (hI4.below hwr).at_ (k := k) (by simp [listF]; exact hlt)
        obtain ⟨b4, o4, x4, e4, hb4', hc4, hx4⟩ := (hI4.below hwr).at_ (k := t k) (by simp [listF]; exact hl1)
        injection e4 with e4
        injection e4 with e4 e5 _
        subst e4
        subst e5
        have hxk : x = ((t k : Nat) : Int) := by rw [← hx.out, up_getD]; simp [listF, List.getD_eq_getElem?_getD, hlt]
        have hx3k : x3 = ((r k : Nat) : Int) := by rw [← hx3.out, up_getD]; simp [listF, List.getD_eq_getElem?_getD, hlt]
        have hx4k : x4 = ((r k : Nat) : Int) := by rw [← hx4.out, up_getD, ← hl2]; simp [listF, List.getD_eq_getElem?_getD, hl1]
        subst hxk
        subst hx3k
        subst hx4k
        have hn'q : n' = q := by rw [← hx2.out, up_length, hor.len]
        subst hn'q
        have hidx := idx_up_mem ((hor.mem _).2 hl1)
        have hpl := (place_lt ((hor.mem _).2 hl1)).1
        rw [hor.len] at hpl
        have HIX : Hid (∀ w', Below wr.heap.size wr w' → Calls Try.prog 22 #[.slice A' n' c', .int .i64 (t k : Nat)] w' fun e w'' => e = .returned (.int .i64 (place (W.getD k []) (t k) : Nat)) ∧ Below wr.heap.size wr w'') := fun w' hw' => by
          rw [← hidx]
          exact (index_any A' n' c' w.heap.size (up (W.getD k [])) _ w' hx2.out (by omega) (hRW.below (hw'.mono hb4.size))).mono fun e w'' h => ⟨h.1, by rw [← h.2]; exact hw'⟩
        have HL3 : Hid (∀ j, j < place (W.getD k []) (t k) → r ((W.getD k []).getD j 0) < r k) := hl3
        have HYN : Hid (∀ j, j < n' → (W.getD k []).getD j 0 < n') := fun j hj => hor.getD_lt hj
        have HWL : Hid ((W.getD k []).length = n') := hor.len
        generalize t k = tk at *
        generalize hrk' : r k = rk at *
        have HRK := hide hrk'
        generalize place (W.getD k []) tk = p at *
        have d1 : decide ((tk : Int) < 0) = false := by simp
        have d2 : decide ((n' : Int) ≤ (tk : Int)) = false := by simp; omega
        have d3 : ((rk : Int) != (rk : Int)) = false := by simp
        have d4 : decide ((rk : Int) < 0) = false := by simp
        clear hx hx2 hx3 hx4 hl2 hl3 hidx hor hrk'
        go_wp2
        go_quiet (fail)
        have hwx := below_drewN hwr nq
        have hcx : (wr.drewN nq).cell? ⟨b2, o2 + k, none⟩ = some (.slice A' n' c') := hc2
        have hbx : b2 < (wr.drewN nq).heap.size := cell_lt (p := ⟨b2, o2 + k, none⟩) hcx
        have HIXX : Hid (∀ w', Below (wr.drewN nq).heap.size (wr.drewN nq) w' → Calls Try.prog 22 #[.slice A' n' c', .int .i64 tk] w' fun e w'' => e = .returned (.int .i64 p) ∧ Below (wr.drewN nq).heap.size (wr.drewN nq) w'') := fun w' hw' =>
          (HIX.out w' ⟨hw'.os, hw'.tape, hw'.output, hw'.size, hw'.block⟩).mono fun e w'' h => ⟨h.1, ⟨h.2.os, h.2.tape, h.2.output, h.2.size, h.2.block⟩⟩
        have hR1 : IntsA (wr.drewN nq) w.heap.size A' (up (W.getD k [])) := hRW
        have hR4 : IntsA (wr.drewN nq) w4.heap.size (some ⟨b3, o3, none⟩) (up (listF n' r)) := (hI4.below hwr).keep fun _ _ => rfl
        have hcr : (wr.drewN nq).cell? ⟨b3, o3 + k, none⟩ = some (.int .i64 (rk : Int)) := hc3
        have hbk : Below w.heap.size w (wr.drewN nq) := below_drewN hb4 nq
        have hpc : ¬ ((c' : Int) < (p : Int)) := by omega
        rcases Nat.lt_or_ge M rk with hmx | hmx
        all_goals
          clear hRW hc hc2 hc3 hc4 HIX hwr hb4
          go_wp2
          generalize wr.drewN nq = wx at *
          refine wp_region_below (by kernel_rfl) (by kernel_rfl) ?_
          refine wpQuiet_move _ (.slice (some ⟨b2, o2, none⟩) n' c) rfl rfl rfl ?_
          simp only [put_lit, List.set_cons_succ, List.set_cons_zero]
          refine wpQuiet_move _ (.int .i64 k) rfl rfl rfl ?_
          simp only [put_lit, List.set_cons_succ, List.set_cons_zero]
          refine wpQuiet_val (.pointer (some ⟨b2, o2 + k, none⟩)) rfl (fun w' hw' => by go_simp) ?_
          simp only [put_lit, List.set_cons_succ, List.set_cons_zero]
          refine wpQuiet_val (.slice A' n' c') rfl (fun w' hw' => by have e0 := (hw'.cell (p := ⟨b2, o2 + k, none⟩) hbx).trans hcx; go_simp) ?_
          simp only [put_lit, List.set_cons_succ, List.set_cons_zero]
          refine wpQuiet_move _ (.slice (some ⟨b2, o2, none⟩) n' c) rfl rfl rfl ?_
          simp only [put_lit, List.set_cons_succ, List.set_cons_zero]
          refine wpQuiet_move _ (.int .i64 k) rfl rfl rfl ?_
          simp only [put_lit, List.set_cons_succ, List.set_cons_zero]
          refine wpQuiet_val (.pointer (some ⟨b2, o2 + k, none⟩)) rfl (fun w' hw' => by go_simp) ?_
          simp only [put_lit, List.set_cons_succ, List.set_cons_zero]
          refine wpQuiet_val (.slice A' n' c') rfl (fun w' hw' => by have e0 := (hw'.cell (p := ⟨b2, o2 + k, none⟩) hbx).trans hcx; go_simp) ?_
          simp only [put_lit, List.set_cons_succ, List.set_cons_zero]
          refine wpQuiet_move _ (.int .i64 tk) rfl rfl rfl ?_
          simp only [put_lit, List.set_cons_succ, List.set_cons_zero]
          refine wpQuiet_call 22 #[.slice A' n' c', .int .i64 tk] (.int .i64 p) rfl (fun w' hw' => by go_simp) (fun w' hw' => HIXX.out w' hw') ?_
          simp only [put_lit, List.set_cons_succ, List.set_cons_zero]
          refine wpQuiet_val (.int .i64 p) rfl (fun w' hw' => by (go_simp; omega)) ?_
          simp only [put_lit, List.set_cons_succ, List.set_cons_zero]
          refine wpQuiet_val (.slice A' p c') rfl (fun w' hw' => by go_simp) ?_
          simp only [put_lit, List.set_cons_succ, List.set_cons_zero]
          refine wpQuiet_val (.int .i64 p) rfl (fun w' hw' => by go_simp) ?_
          simp only [put_lit, List.set_cons_succ, List.set_cons_zero]
          refine wpQuiet_move _ (.int .i64 0) rfl rfl rfl ?_
          simp only [put_lit, List.set_cons_succ, List.set_cons_zero]
          refine wpQuiet_nil ?_
          intro wy hwy
          have hR5 := hR1.below (hwy.mono hbk.size)
          have hR6 := hR4.below (hwy.mono hwx.size)
          have hb5 := hwx.trans (hwy.mono hwx.size)
          have hcy := (hwy.cell (p := ⟨b3, o3 + k, none⟩) (cell_lt (p := ⟨b3, o3 + k, none⟩) hcr)).trans hcr
          clear hR1 hR4 hwx hcx hbx HIXX hcr hbk hwy
          clear wx
          go_wp2
          go_loopw [106] (fun i wr => ∃ j : Nat, j ≤ p ∧ i = .int .i64 j ∧ Below wy.heap.size wy wr) (fun i _ => p - (intOf i).toNat)
          case atStart => exact ⟨0, Nat.zero_le _, rfl, Below.refl _ _⟩
          case round =>
            obtain ⟨j, hj, rfl, hwr⟩ := hrel
            by_cases hjp : j < p
            · have hjn : j < n' := by omega
              obtain ⟨b5, o5, y, rfl, hb5', hc5, hy⟩ := (hR5.below (hwr.mono (hb14.trans (hb5.mono hb14.size)).size)).at_ (k := j) (by rw [up_length, HWL.out]; exact hjn)
              have hyn := HYN.out j hjn
              have hry := HL3.out j hjp
              have hyk : y = (((W.getD k []).getD j 0 : Nat) : Int) := by rw [← hy.out, up_getD]
              generalize (W.getD k []).getD j 0 = yn at hyk hyn hry
              subst hyk
              obtain ⟨b6, o6, x6, e6, hb6', hc6, hx6⟩ := (hR6.below (hwr.mono hb5.size)).at_ (k := yn) (by simp [listF]; exact hyn)
              injection e6 with e6
              injection e6 with e6 e7 _
              subst e6
              subst e7
              have hx6k : x6 = ((r yn : Nat) : Int) := by rw [← hx6.out, up_getD]; simp [listF, List.getD_eq_getElem?_getD, hyn]
              subst hx6k
              generalize r yn = ry at *
              have hcy' := (hwr.cell (p := ⟨b3, o3 + k, none⟩) (cell_lt (p := ⟨b3, o3 + k, none⟩) hcy)).trans hcy
              have hd : decide ((rk : Int) ≤ (ry : Int)) = false := by simp; omega
              clear hy hx6
              go_wp2
              go_quiet (fail)
              go_wp2
              go_roundw
              case rel => exact ⟨j + 1, by omega, by go_num, below_drewN hwr _⟩
              case measure => simp [intOf] <;> omega
            · go_wp2
              go_roundw
              case rel =>
                refine ⟨k + 1, _, by omega, by go_num, rfl, by omega, hb5.trans (hwr.mono hb5.size), ?_⟩
                first
                  | exact .inr ⟨k, hlt, HRK.out⟩
                  | exact HM.out
              case measure => simp [intOf] <;> omega
      · have HCN : Hid (∀ j, j < M → (j : Int) ∈ up (listF q r)) := fun j hj => by
          rw [mem_up]
          rcases HM.out with h0 | ⟨i, hi, h0⟩
          · omega
          · obtain ⟨x, hx, e⟩ := HLAW.out.2.1 i j hi (by omega)
            exact List.mem_map.2 ⟨x, by simpa using hx, e⟩
        go_wp2
        go_loopw [122] (fun i wr => ∃ j : Nat, j ≤ M ∧ i = .int .i64 j ∧ Below w4.heap.size w4 wr) (fun i _ => M - (intOf i).toNat)
        case atStart => exact ⟨0, Nat.zero_le _, rfl, hwr⟩
        case round =>
          clear hwr
          obtain ⟨j, hj, rfl, hwr⟩ := hrel
          by_cases hjM : j < M
          · have HCC := hide (contains_any O4 q k4 w4.heap.size (up (listF q r)) (j : Int) wr (by simp [listF]) (by omega) (hI4.below hwr))
            rw [decide_eq_true (HCN.out j hjM)] at HCC
            go_wp2_with (go_at_call 28; refine (HCC.out).mono ?_; rintro e w' ⟨rfl, rfl⟩)
            go_roundw
            case rel => exact ⟨j + 1, by omega, by go_num, hwr⟩
            case measure => simp [intOf] <;> omega
          · have hb4 := hb14.trans (hwr.mono hb14.size)
            go_wp2_with (go_at_call 21; refine (awake_any _).mono ?_; rintro e w3 ⟨rfl, hb3⟩)
            go_ret
            exact ⟨rfl, hb4.trans (hb3.mono hb4.size)⟩
end Go.Proofs.Ytilnbiaabhdfgaa
