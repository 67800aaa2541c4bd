/-
  The reference's Asked and outcome.
-/
import Derived.Test.YtilnbiaabhdfgaaAsk
import Derived.Test.YtilnbiaabhdfgaaRefChoose
import Derived.Test.YtilnbiaabhdfgaaRefTrade
namespace Go.Proofs.Ytilnbiaabhdfgaa
open Go.RowKit
set_option linter.unusedVariables false
set_option linter.unusedSimpArgs false

set_option maxRecDepth 100000 in
set_option maxHeartbeats 6400000 in
theorem refAsked_any (A : Option Addr) (n c B : Nat) (W : List (List Nat)) (w : World) (hok : WOk W n) (hA : RowsA w B A (upp W)) :
    Calls Try.prog 90 #[.slice A n c] w (OneRow n (askedN W) w) := by
  have h1 := hok.pos
  have h5 := hok.le
  have HOK := hide hok
  have hA1 := hA.top
  have hmk := run_make_row' (P := Try.prog) 23 3 (.int .i64 0) 8 Try.underlying23 info_int rfl .i64 .i64 n (by omega) (by omega)
  have hm0 : (w.alloc (.cells (madeCells #[.int .i64 0] n) 3)).rowIs w.heap.size 3 n (fun i => .int .i64 (if i < 0 then -1 else 0)) := (World.rowIs_made w _ n _).congr (fun i _ => by simp)
  have hbl0 : Below w.heap.size w (w.alloc (.cells (madeCells #[.int .i64 0] n) 3)) := (Below.refl _ _).alloc (Nat.le_refl _) _
  clear hok
  go_enter Try.func90, Try.ntmps90
  go_wp2
  clear hmk
  obtain ⟨ob, hob⟩ : ∃ ob, w.heap.size = ob := ⟨_, rfl⟩
  have HOB := hide hob
  have hobw : w.heap.size ≤ ob := by omega
  rw [hob] at hm0
  rw [hob]
  clear hob
  go_loopw [19] (fun i wr => ∃ k : Nat, k ≤ n ∧ i = .int .i64 k ∧ wr.rowIs ob 3 n (fun i => .int .i64 (if i < k then -1 else 0)) ∧ Below w.heap.size w wr) (fun i _ => n - (intOf i).toNat)
  case atStart => exact ⟨0, Nat.zero_le _, rfl, hm0, hbl0⟩
  case round =>
    clear hm0 hbl0
    obtain ⟨k, hk, rfl, hro, hbel⟩ := hrel
    by_cases hlt : k < n
    · obtain ⟨v1, o1⟩ : ∃ v, wr.cell? ⟨ob, k, none⟩ = some v := ⟨_, hro.cell hlt⟩
      have o2 := hro.frozen k
      have HRO := hide hro
      clear hro
      go_wp2
      go_roundw
      case rel =>
        refine ⟨k + 1, by omega, by go_num, (HRO.out.set k _).congr (fun j _ => ?_), hbel.setCell (by show w.heap.size ≤ ob; omega) _⟩
        by_cases e : j = k
        · subst e; simp
        · by_cases e2 : j < k
          · simp [e, e2, show j < k + 1 by omega]
          · simp [e, e2, show ¬ j < k + 1 by omega]
      case measure => simp [intOf] <;> omega
    · obtain rfl : n = k := by omega
      have hro0 : wr.rowIs ob 3 n (fun i => .int .i64 ((fun _ => -1 : Nat → Int) i)) := hro.congr (fun i hi => by simp [hi])
      clear hro
      go_wp2
      go_loopw [27] (fun i wi => ∃ (r f T : Nat) (out : Nat → Int), r + f = n ∧ i = .int .i64 r ∧ wi.rowIs ob 3 n (fun i => .int .i64 (out i)) ∧ Below w.heap.size w wi ∧ Hid (AskR n T (out, 0) ∧ cardF n T ≤ f ∧ askF W n f T out = asked W n)) (fun i _ => n - (intOf i).toNat)
      case atStart => exact ⟨0, n, 2 ^ n - 1, _, by omega, rfl, hro0, hbel, ask_start n, cardF_le _ _, rfl⟩
      case round =>
        clear hro0 hbel
        obtain ⟨r, f, T, out, hrf, rfl, hro, hbel, HP⟩ := hrel
        have hT60 : T < 2 ^ 60 := Nat.lt_of_lt_of_le HP.out.1.lt (Nat.pow_le_pow_right (by decide) (by omega))
        by_cases hltr : r < n
        · have HRUN := hide (fun k hk => HP.out.1.run' HOK.out.rows k hk)
          go_wp2
          go_loopw [6, 31] (fun t i wi => ∃ (k M : Nat), k ≤ n ∧ i = .int .i64 k ∧ t = .int .i64 M ∧ wi.rowIs ob 3 n (fun i => .int .i64 (out i)) ∧ Below w.heap.size w wi ∧ M < 2 ^ 60 ∧ Hid (∀ g : Nat, M.testBit g = true ↔ ∃ i, i < k ∧ out i = g)) (fun _ i _ => n - (intOf i).toNat)
          case atStart => exact ⟨0, 0, Nat.zero_le _, rfl, rfl, hro, hbel, by decide, fun g => by simp⟩
          case round =>
            clear hro hbel
            obtain ⟨k, M, hk, rfl, rfl, hro, hbel, hM60, hM⟩ := hrel
            by_cases hltk : k < n
            · have hcc := hro.cell hltk
              have hval := HP.out.1.val k hltk
              dsimp only at hval
              obtain ⟨v, hv⟩ : ∃ v, out k = v := ⟨_, rfl⟩
              rw [hv] at hcc hval
              have HV := hide hv
              have HRO := hide hro
              clear hv hro
              by_cases hge : 0 ≤ v
              · obtain ⟨g, rfl⟩ := Int.eq_ofNat_of_zero_le hge
                have hgn : g < n := by omega
                have hpw : (2 : Nat) ^ g < 2 ^ 60 := Nat.pow_lt_pow_right (by decide) (by omega)
                have hor : Hid (bits BinOp.or IntKind.i64 (M : Int) (wrap64 (2 ^ g)) = ((M ||| 2 ^ g : Nat) : Int)) := by show _ = _; rw [shl_one g (by omega), bor_nat M _ (by omega) (by omega)]
                clear hval
                go_wp2
                go_roundw
                case rel =>
                  refine ⟨k + 1, M ||| 2 ^ g, by omega, by go_num, by rw [hor.out], HRO.out, hbel, Nat.or_lt_two_pow hM60 hpw, fun g' => ?_⟩
                  simp only [Nat.testBit_or, Bool.or_eq_true, hM.out g', Nat.testBit_two_pow, decide_eq_true_eq]
                  constructor
                  · rintro (⟨i, hi, e⟩ | rfl)
                    · exact ⟨i, by omega, e⟩
                    · exact ⟨k, by omega, HV.out⟩
                  · rintro ⟨i, hi, e⟩
                    by_cases e2 : i = k
                    · right; have := HV.out; rw [e2] at e; omega
                    · exact .inl ⟨i, by omega, e⟩
                case measure => simp [intOf] <;> omega
              · clear hval
                go_wp2
                go_roundw
                case rel =>
                  refine ⟨k + 1, M, by omega, by go_num, rfl, HRO.out, hbel, hM60, fun g' => ?_⟩
                  rw [hM.out g']
                  constructor
                  · rintro ⟨i, hi, e⟩; exact ⟨i, by omega, e⟩
                  · rintro ⟨i, hi, e⟩
                    by_cases e2 : i = k
                    · have := HV.out; rw [e2] at e; omega
                    · exact ⟨i, by omega, e⟩
                case measure => simp [intOf] <;> omega
            · obtain rfl : n = k := by omega
              have hMT : Hid (∀ g, g < n → M.testBit g = !T.testBit g) := fun g hg => by
                rw [Bool.eq_iff_iff, hM.out g, HP.out.1.has g hg]; simp
              have hro0 : wr.rowIs ob 3 n (fun i => .int .i64 ((askTo W T out 0).1 i)) := hro
              clear hro hM
              go_wp2
              go_loopw [9, 44] (fun t i wi => ∃ (k N : Nat), k ≤ n ∧ i = .int .i64 k ∧ t = .int .i64 N ∧ N < 2 ^ 60 ∧ wi.rowIs ob 3 n (fun i => .int .i64 ((askTo W T out k).1 i)) ∧ Below w.heap.size w wi ∧ Hid (∀ g, g < n → N.testBit g = (!T.testBit g || (askTo W T out k).2.testBit g))) (fun _ i _ => n - (intOf i).toNat)
              case atStart => exact ⟨0, M, Nat.zero_le _, rfl, rfl, hM60, hro0, hbel, fun g hg => by rw [hMT.out g hg]; show _ = (_ || (0 : Nat).testBit g); simp⟩
              case round =>
                clear hro0 hbel
                obtain ⟨k, N, hk, rfl, rfl, hN60, hro, hbel, hN⟩ := hrel
                by_cases hltk : k < n
                · have HST := hide (askTo_succ W T out k)
                  have hcc := hro.cell hltk
                  have hfz := hro.frozen k
                  have hval := (HRUN.out k (by omega)).val k hltk
                  have HLA := hide (askTo_later (W := W) (T := T) (out := out) k k (Nat.le_refl _))
                  have HSE : Hid (askStep W T (askTo W T out k) k = if 0 ≤ (askTo W T out k).1 k then askTo W T out k else if (askTo W T out k).2.testBit (best (W.getD k []) T) then askTo W T out k else (fun j => if j = k then (best (W.getD k []) T : Int) else (askTo W T out k).1 j, (askTo W T out k).2 ||| 2 ^ best (W.getD k []) T)) := rfl
                  obtain ⟨s, hs⟩ : ∃ s, askTo W T out k = s := ⟨_, rfl⟩
                  rw [hs] at hcc hval
                  have HS := hide hs
                  obtain ⟨v, hv⟩ : ∃ v, s.1 k = v := ⟨_, rfl⟩
                  rw [hv] at hcc hval
                  have HV := hide hv
                  have HRO := hide hro
                  clear hs hv hro
                  by_cases hge : 0 ≤ v
                  · have hstep : Hid (askTo W T out (k + 1) = s) := by show _ = _; rw [HST.out, HSE.out, HS.out, HV.out, if_pos hge]
                    go_wp2
                    go_roundw
                    case rel => exact ⟨k + 1, N, by omega, by go_num, rfl, hN60, by rw [hstep.out, ← HS.out]; exact HRO.out, hbel, fun g hg => by rw [hstep.out, ← HS.out]; exact hN.out g hg⟩
                    case measure => simp [intOf] <;> omega
                  · have hv1 : v < 0 := by omega
                    have h0 : Hid (T ≠ 0) := fun e => by
                      have h9 := HP.out.1
                      rw [e] at h9
                      have := (h9.all k hltk).1
                      have h8 := HLA.out
                      rw [HS.out, HV.out] at h8
                      omega
                    have hri := HOK.out.rows k hltk
                    have hsw := some_best HOK.out.rows HP.out.1.lt h0.out hltk
                    have hbm := best_mem hsw
                    have hgn := (hri.mem _).1 hbm.1
                    obtain ⟨p1, p2⟩ := place_lt hbm.1
                    rw [hri.len] at p1
                    have HBM := hide hbm
                    have HP2 := hide p2
                    have HSW := hide hsw
                    obtain ⟨b3, o3, A', n', c1, hAe, hb3, hc3, hx3, hle3, hI3⟩ := (hA1.below hbel).at_ (k := k) (by rw [upp_length, HOK.out.len]; exact hltk)
                    rw [upp_getD] at hI3 hx3
                    obtain rfl : n = n' := by have := hx3.out; rw [up_length, hri.len] at this; exact this
                    have HRI := hide hri
                    have HI3 := hide hI3
                    have HAE := hide hAe
                    obtain ⟨g, hgg⟩ : ∃ g, best (W.getD k []) T = g := ⟨_, rfl⟩
                    rw [hgg] at hgn
                    have HG := hide hgg
                    clear hval hri hsw hbm p1 p2 hx3 hI3 hgg hcc
                    have hcc' := HRO.out.cell hltk
                    rw [HS.out, HV.out] at hcc'
                    subst hAe
                    go_wp2
                    go_loopw [11] (fun q wi => ∃ j m : Nat, j < n ∧ q = .int .i64 j ∧ wi = wr.drewN m ∧ Hid (∀ j', j' < j → T.testBit ((W.getD k []).getD j' 0) = false)) (fun q _ => n - (intOf q).toNat)
                    case atStart => exact ⟨0, 0, by omega, rfl, rfl, fun j' h => by omega⟩
                    case round =>
                      obtain ⟨j, m, hj, rfl, rfl, hno⟩ := hrel
                      obtain ⟨b4, o4, x, rfl, hb4, hc4, hx4⟩ := HI3.out.at_ (k := j) (by rw [up_length, HRI.out.len]; exact hj)
                      have hx5 := hx4.out
                      rw [up_getD] at hx5
                      have hyn := HRI.out.getD_lt hj
                      have hMy := hMT.out _ hyn
                      obtain ⟨y, hyy⟩ : ∃ y, (W.getD k []).getD j 0 = y := ⟨_, rfl⟩
                      rw [hyy] at hx5 hyn hMy
                      subst hx5
                      have HYY := hide hyy
                      have hsh := shr_test M y (by omega)
                      have hbm2 : Below w.heap.size w (wr.drewN m) := below_drewN hbel m
                      clear hx4 hyy
                      cases hTy : T.testBit y
                      · rw [hTy] at hMy
                        rw [hMy] at hsh
                        have HTY := hide hTy
                        have HSW2 : Hid (j + 1 < n) := by
                          obtain ⟨p1, p2⟩ := place_lt HBM.out.1
                          rw [HRI.out.len] at p1
                          apply Classical.byContradiction
                          intro hge2
                          have : T.testBit ((W.getD k []).getD (place (W.getD k []) (best (W.getD k []) T)) 0) = false := by
                            by_cases e : place (W.getD k []) (best (W.getD k []) T) = j
                            · rw [e, HYY.out, HTY.out]
                            · exact hno.out _ (by have : ¬ j + 1 < n := hge2; omega)
                          rw [p2, HBM.out.2] at this
                          cases this
                        clear hTy hMy
                        go_wp2
                        try (go_quiet (fail))
                        go_wp2
                        go_roundw
                        case rel =>
                          refine ⟨j + 1, _, HSW2.out, by go_num, (by first | rfl | exact World.drewN_drewN _ _ _), fun j' h => ?_⟩
                          by_cases e : j' = j
                          · rw [e, HYY.out, HTY.out]
                          · exact hno.out j' (by omega)
                        case measure => simp [intOf] <;> omega
                      · rw [hTy] at hMy
                        rw [hMy] at hsh
                        have hyg : y = g := by
                          rw [← HG.out, best_at (k := j) (by rw [HRI.out.len]; exact hj) (by rw [HYY.out, hTy]) hno.out, HYY.out]
                        subst hyg
                        have HTY := hide hTy
                        have hNg := hN.out y hyn
                        rw [hTy, HS.out] at hNg
                        have hpw : (2 : Nat) ^ y < 2 ^ 60 := Nat.pow_lt_pow_right (by decide) (by omega)
                        have hsh0 := shr_test0 N y (by omega)
                        have hor : Hid (bits BinOp.or IntKind.i64 (N : Int) (wrap64 (2 ^ y)) = ((N ||| 2 ^ y : Nat) : Int)) := by show _ = _; rw [shl_one y (by omega), bor_nat N _ (by omega) (by omega)]
                        clear hTy hMy
                        have hrom : (wr.drewN m).rowIs ob 3 n (fun i => .int .i64 (s.1 i)) := by have := HRO.out; rw [HS.out] at this; exact this.of_block rfl
                        obtain ⟨v1, o1⟩ : ∃ v, wr.cell? ⟨ob, k, none⟩ = some v := ⟨_, HRO.out.cell hltk⟩
                        have HRM := hide hrom
                        clear hrom
                        cases hsb : s.2.testBit y
                        · rw [hsb] at hNg
                          rw [show N.testBit y = false by rw [hNg]; rfl] at hsh0
                          have hstep : Hid (askTo W T out (k + 1) = (fun j => if j = k then (y : Int) else s.1 j, s.2 ||| 2 ^ y)) := by
                            show _ = _
                            rw [HST.out, HSE.out, HS.out, HV.out, if_neg (by omega), HG.out, hsb]; rfl
                          clear hNg hsb o1
                          go_wp2
                          try (go_quiet (fail))
                          go_wp2
                          go_roundw
                          case rel =>
                            refine ⟨k + 1, N ||| 2 ^ y, by omega, by go_num, by rw [hor.out], Nat.or_lt_two_pow hN60 hpw, ?_, hbm2.setCell (by show w.heap.size ≤ ob; omega) _, fun g hg => ?_⟩
                            · rw [hstep.out]
                              refine (HRM.out.set k _).congr (fun j _ => ?_)
                              dsimp only
                              by_cases e : j = k <;> simp [e]
                            · rw [hstep.out]
                              have := hN.out g hg
                              rw [HS.out] at this
                              simp only [Nat.testBit_or, this, Bool.or_assoc]
                          case measure => simp [intOf] <;> omega
                        · rw [hsb] at hNg
                          rw [show N.testBit y = true by rw [hNg]; rfl] at hsh0
                          have hstep : Hid (askTo W T out (k + 1) = s) := by
                            show _ = _
                            rw [HST.out, HSE.out, HS.out, HV.out, if_neg (by omega), HG.out, hsb]; rfl
                          clear hNg hsb o1
                          go_wp2
                          try (go_quiet (fail))
                          go_wp2
                          go_roundw
                          case rel => exact ⟨k + 1, N, by omega, by go_num, rfl, hN60, by rw [hstep.out]; exact HRM.out, hbm2, fun g hg => by rw [hstep.out, ← HS.out]; exact hN.out g hg⟩
                          case measure => simp [intOf] <;> omega
                · obtain rfl : n = k := by omega
                  have HRO := hide hro
                  clear hro
                  go_wp2
                  go_roundw
                  case rel =>
                    obtain ⟨f', rfl⟩ : ∃ f', f = f' + 1 := ⟨f - 1, by omega⟩
                    exact ⟨r + 1, f', _, _, by omega, by go_num, HRO.out, hbel, (HRUN.out n (Nat.le_refl _)).next, HP.out.1.fewer HOK.out.rows HP.out.2.1, by rw [← HP.out.2.2, askF_step HOK.out.rows HP.out.1]⟩
                  case measure => simp [intOf] <;> omega
        · obtain rfl : r = n := by omega
          obtain rfl : f = 0 := by omega
          have HRW := hide hro
          clear hro
          go_wp2
          go_ret
          have e : out = asked W r := by rw [← HP.out.2.2]; rfl
          exact ⟨some ⟨ob, 0, none⟩, r, rfl, asked_row (w := w) HOK.out.len HOK.out.rows e HRW.out, hbel, fun g hg => by simp [Value.ownBlock] at hg; omega⟩

/-- The reference's rule, as a function of the wishes. -/
structure ROutOk (rule n : Nat) (f : List (List Nat) → List Nat) : Prop where
  call : ∀ (A : Option Addr) (c : Nat) (W : List (List Nat)) (w : World), WOk W n → RowsA w w.heap.size A (upp W) → Calls Try.prog 75 #[.slice A n c, .int .i64 rule] w (OneRow n (f W) w)
set_option maxHeartbeats 400000 in
theorem rout_trading (n : Nat) : ROutOk 0 n tradeN := ⟨fun A c W w hW hA => by
  have HK := hide (refTrade_any A n c _ W w hW hA)
  clear hA hW
  go_enter Try.func75, Try.ntmps75
  go_wp2_with (go_at_call 26; refine (HK.out).mono ?_; rintro e w2 ⟨H, c', rfl, hI, hb2, hn2⟩; have HN := hide hn2; clear hn2)
  go_ret
  exact ⟨H, c', rfl, hI, hb2, HN.out⟩⟩
set_option maxHeartbeats 400000 in
theorem rout_asking (n : Nat) : ROutOk 2 n askedN := ⟨fun A c W w hW hA => by
  have HK := hide (refAsked_any A n c _ W w hW hA)
  clear hA hW
  go_enter Try.func75, Try.ntmps75
  go_wp2_with (go_at_call 90; refine (HK.out).mono ?_; rintro e w2 ⟨H, c', rfl, hI, hb2, hn2⟩; have HN := hide hn2; clear hn2)
  go_ret
  exact ⟨H, c', rfl, hI, hb2, HN.out⟩⟩
set_option maxHeartbeats 400000 in
theorem rout_choosing (n : Nat) : ROutOk 1 n firstN := ⟨fun A c W w hW hA => by
  have h60 : n ≤ 60 := by have := hW.le; omega
  have HT : Hid (firstN W = chooseN W (List.range n)) := by show _ = _; rw [firstN, hW.len]
  have HW := hide hW
  have HA := hide hA
  clear hA hW
  go_enter Try.func75, Try.ntmps75
  go_wp2_with (first
    | (go_at_call 52; refine (refSelf_any n w h60).mono ?_; rintro e w1 ⟨H, c', rfl, hc, hI, hb1⟩)
    | (go_at_call 37; refine (refChoose_any A H n c c' w1.heap.size w1.heap.size W (List.range n) w1 h60 HW.out.len HW.out.rows (HA.out.next hb1) (ord_range n) hI).mono ?_; rintro e w2 ⟨O, co, rfl, hO, hb2, hn2⟩; have HN := hide hn2; clear hn2))
  go_ret
  exact ⟨O, co, rfl, by rw [HT.out]; exact hO, hb1.trans (hb2.mono hb1.size), fun g hg => Nat.le_trans hb1.size (HN.out g hg)⟩⟩
end Go.Proofs.Ytilnbiaabhdfgaa
