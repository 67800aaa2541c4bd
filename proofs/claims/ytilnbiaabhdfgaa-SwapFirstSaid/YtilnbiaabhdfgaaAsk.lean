/-
  swap: wishes.ask, and the outcome by asking.
-/
import Derived.Test.YtilnbiaabhdfgaaRepeat
import Derived.Test.YtilnbiaabhdfgaaOwner
import Derived.Test.YtilnbiaabhdfgaaAskPlain
import Derived.Test.YtilnbiaabhdfgaaOutcome
namespace Go.Proofs.Ytilnbiaabhdfgaa
open Go.RowKit
set_option linter.unusedVariables false
set_option linter.unusedSimpArgs false

theorem asked_row {w wr : World} {n b : Nat} {W : List (List Nat)} {out : Nat → Int} (hlen : W.length = n) (hW : ∀ i, i < n → Ord (W.getD i []) n) (ho : out = asked W n) (hr : wr.rowIs b 3 n (fun i => .int .i64 (out i))) : IntsA wr wr.heap.size (some ⟨b, 0, none⟩) (up (askedN W)) := by
  subst ho
  refine ints_of_row hr (by simp [askedN, listF, hlen]) (fun i hi => ?_)
  rw [up_getD]
  have h := (asked_ok hW i hi).1
  have e : (askedN W).getD i 0 = (asked W n i).toNat := by simp [askedN, listF, hlen, List.getD_eq_getElem?_getD, hi]
  rw [e, Int.toNat_of_nonneg h]

set_option maxRecDepth 100000 in
set_option maxHeartbeats 3200000 in
theorem ask_any (A : Option Addr) (n c B : Nat) (W : List (List Nat)) (w : World) (hok : WOk W n) (hA : RowsA w B A (upp W)) :
    Calls Try.prog 89 #[.slice A n c] w (OneRow n (askedN W) w) := by
  have h1 := hok.pos
  have h5 := hok.le
  have HOK := hide hok
  have hA1 := hA.top
  have hb0 : (w.alloc (.cells #[.int .i64 (-1)] 3)).cell? ⟨w.heap.size, 0, none⟩ = some (.int .i64 (-1)) := by rw [World.cell?_alloc_at _ _ _ _ rfl]; rfl
  have HRP := hide (repeat_any n w.heap.size h1 h5 _ (-1) hb0)
  have hsz : (w.alloc (.cells #[.int .i64 (-1)] 3)).heap.size = w.heap.size + 1 := by simp
  rw [hsz] at HRP
  have hbl0 : Below w.heap.size w (w.alloc (.cells #[.int .i64 (-1)] 3)) := (Below.refl _ _).alloc (Nat.le_refl _) _
  have HB0 := hide hbl0
  have hL := full_nat n (by omega)
  clear hok hb0 hsz hbl0
  go_enter Try.func89, Try.ntmps89
  go_wp2_with (go_at_call 95; refine (HRP.out).mono ?_; rintro e w1 ⟨rfl, hro, hb1⟩; have HRO := hide hro; have HB1 := hide hb1; clear hro hb1)
  have hbel0 : Below w.heap.size w w1 := HB0.out.trans (HB1.out.mono (by simp))
  obtain ⟨ob, hob⟩ : ∃ ob, w.heap.size + 1 = ob := ⟨_, rfl⟩
  have hobw : w.heap.size ≤ ob := by omega
  have HRO2 : Hid (w1.rowIs ob 3 n (fun _ => .int .i64 (-1))) := by rw [← hob]; exact HRO.out
  rw [hob]
  clear HRO HRP HB1 hob
  go_loopw [4] (fun t wr => ∃ (T f : Nat) (out : Nat → Int), t = .int .i64 T ∧ wr.rowIs ob 3 n (fun i => .int .i64 (out i)) ∧ Below w.heap.size w wr ∧ Hid (AskR n T (out, 0) ∧ cardF n T ≤ f ∧ askF W n f T out = asked W n)) (fun t _ => (intOf t).toNat)
  case atStart => exact ⟨2 ^ n - 1, n, fun _ => -1, by first | rfl | rw [hL], HRO2.out, hbel0, ask_start n, cardF_le _ _, rfl⟩
  case round =>
    clear hbel0 hL
    obtain ⟨T, f, out, rfl, hro, hbel, HP⟩ := hrel
    have hT60 : T < 2 ^ 60 := Nat.lt_of_lt_of_le HP.out.1.lt (Nat.pow_le_pow_right (by decide) (by omega))
    by_cases h0 : T = 0
    · subst h0
      have HRW := hide hro
      go_wp2
      go_ret
      have e : out = asked W n := by
        rw [← HP.out.2.2]
        cases f <;> simp [askF]
      exact ⟨some ⟨ob, 0, none⟩, n, rfl, asked_row (w := w) HOK.out.len HOK.out.rows e HRW.out, hbel, fun g hg => by simp [Value.ownBlock] at hg; omega⟩
    · have hne : ((T : Int) != 0) = true := by simp; omega
      have H0 : Hid (T ≠ 0) := h0
      have HRUN := hide (HP.out.1.run HOK.out.rows h0)
      have HLESS := hide (HP.out.1.less HOK.out.rows h0)
      have hro0 : wr.rowIs ob 3 n (fun i => .int .i64 ((askTo W T out 0).1 i)) := hro
      clear h0 hro
      go_wp2
      go_loopw [5, 20] (fun t i wi => ∃ (k M : Nat), k ≤ n ∧ i = .int .i64 k ∧ t = .int .i64 M ∧ M < 2 ^ 60 ∧ wi.rowIs ob 3 n (fun i => .int .i64 ((askTo W T out k).1 i)) ∧ Below w.heap.size w wi ∧ Hid ((askTo W T out k).2 = M)) (fun _ i _ => n - (intOf i).toNat)
      case atStart => exact ⟨0, 0, Nat.zero_le _, rfl, rfl, by decide, hro0, hbel, rfl⟩
      case round =>
        clear hro0 hbel
        obtain ⟨k, M, hk, rfl, rfl, hM, hro, hbel, hMM⟩ := hrel
        by_cases hlt : k < n
        · have hst := askTo_succ W T out k
          have hcc := hro.cell hlt
          have hfz := hro.frozen k
          have hsw := some_best HOK.out.rows HP.out.1.lt H0.out hlt
          have hri := HOK.out.rows k hlt
          have hbm := best_mem hsw
          have hgn := (hri.mem _).1 hbm.1
          have hval := (HRUN.out k (by omega)).val k hlt
          have HB := hide (best_any A n c w.heap.size k T W wr HOK.out.len (by omega) (hA1.below hbel) hlt hT60 (by rw [hri.len]; omega) (fun g hg => by have := (hri.mem g).1 hg; omega) hsw)
          have HSE : Hid (askStep W T (askTo W T out k) k = if 0 ≤ (askTo W T out k).1 k then askTo W T out k else if (askTo W T out k).2.testBit (best (W.getD k []) T) then askTo W T out k else (fun j => if j = k then (best (W.getD k []) T : Int) else (askTo W T out k).1 j, (askTo W T out k).2 ||| 2 ^ best (W.getD k []) T)) := rfl
          have HST := hide hst
          obtain ⟨s, hs⟩ : ∃ s, askTo W T out k = s := ⟨_, rfl⟩
          rw [hs] at hcc hval hMM
          have HS := hide hs
          obtain ⟨v, hv⟩ : ∃ v, s.1 k = v := ⟨_, rfl⟩
          rw [hv] at hcc hval
          have HV := hide hv
          generalize best (W.getD k []) T = g at *
          have HRO := hide hro
          have hpw : (2 : Nat) ^ g < 2 ^ 60 := Nat.pow_lt_pow_right (by decide) (by omega)
          have hsh0 := shr_test0 M g (by omega)
          have hor : bits BinOp.or IntKind.i64 (M : Int) (wrap64 (2 ^ g)) = ((M ||| 2 ^ g : Nat) : Int) := by rw [shl_one g (by omega), bor_nat M _ (by omega) (by omega)]
          have HOR := hide hor
          clear hst hsw hri hbm hs hv hor
          by_cases hge : 0 ≤ v
          · have hstep : Hid (askTo W T out (k + 1) = s) := by show _ = _; rw [HST.out, HSE.out, HS.out, HV.out, if_pos hge]
            clear hro hsh0
            go_wp2
            go_roundw
            case rel => exact ⟨k + 1, M, by omega, by go_num, rfl, hM, by rw [hstep.out, ← HS.out]; exact HRO.out, hbel, by show _ = _; rw [hstep.out]; exact hMM.out⟩
            case measure => simp [intOf] <;> omega
          · have hv1 : v < 0 := by omega
            cases hbt : M.testBit g
            · rw [hbt] at hsh0
              have hstep : Hid (askTo W T out (k + 1) = (fun j => if j = k then (g : Int) else s.1 j, M ||| 2 ^ g)) := by
                show _ = _
                rw [HST.out, HSE.out, HS.out, HV.out, if_neg hge, hMM.out, hbt]; rfl
              have hM2 : M ||| 2 ^ g < 2 ^ 60 := Nat.or_lt_two_pow hM hpw
              clear hbt hro
              go_wp2_with (go_at_call 81; refine (HB.out).mono ?_; rintro e w2 ⟨rfl, hb2⟩; have hr2 := HRO.out.of_block (hb2.block _ HRO.out.lt); obtain ⟨v1, o1'⟩ : ∃ v, w2.cell? ⟨ob, k, none⟩ = some v := ⟨_, hr2.cell hlt⟩; have o2 := hr2.frozen k; have HR2 := hide hr2; clear hr2)
              go_roundw
              case rel =>
                refine ⟨k + 1, M ||| 2 ^ g, by omega, by go_num, by rw [HOR.out], hM2, ?_, (hbel.trans (hb2.mono hbel.size)).setCell (by show w.heap.size ≤ ob; omega) _, by show _ = _; rw [hstep.out]⟩
                rw [hstep.out]
                refine (HR2.out.set k _).congr (fun j _ => ?_)
                dsimp only
                by_cases e : j = k
                · simp [e]
                · simp [e, HS.out]
              case measure => simp [intOf] <;> omega
            · rw [hbt] at hsh0
              have hstep : Hid (askTo W T out (k + 1) = s) := by
                show _ = _
                rw [HST.out, HSE.out, HS.out, HV.out, if_neg hge, hMM.out, hbt]; rfl
              clear hbt hro
              go_wp2_with (go_at_call 81; refine (HB.out).mono ?_; rintro e w2 ⟨rfl, hb2⟩; have HR2 := hide (HRO.out.of_block (hb2.block _ HRO.out.lt)))
              go_roundw
              case rel => exact ⟨k + 1, M, by omega, by go_num, rfl, hM, by rw [hstep.out, ← HS.out]; exact HR2.out, hbel.trans (hb2.mono hbel.size), by show _ = _; rw [hstep.out]; exact hMM.out⟩
              case measure => simp [intOf] <;> omega
        · obtain rfl : n = k := by omega
          have hsd : Hid (bits BinOp.andNot IntKind.i64 (T : Int) (M : Int) = ((sdiff T M : Nat) : Int)) := bandNot_nat T M (by omega) (by omega)
          have hless := HLESS.out
          rw [hMM.out] at hless
          have hlt2 := hless.1
          have HL2 := hide hless
          have HRO := hide hro
          clear hless hro
          go_wp2
          go_roundw
          case rel =>
            refine ⟨sdiff T M, f - 1, (askTo W T out n).1, by rw [hsd.out], HRO.out, hbel, ?_⟩
            have hnx := (HRUN.out n (Nat.le_refl _)).next
            rw [hMM.out] at hnx
            have hf : f ≠ 0 := by have := HP.out.2.1; have := HL2.out.2; omega
            obtain ⟨f', rfl⟩ : ∃ f', f = f' + 1 := ⟨f - 1, by omega⟩
            refine ⟨hnx, by have := HP.out.2.1; have := HL2.out.2; omega, ?_⟩
            rw [← HP.out.2.2, ← hMM.out]
            simp [askF, H0.out]
          case measure => simp [intOf, hsd.out] <;> omega

set_option maxHeartbeats 400000 in
theorem out_asking (n : Nat) : OutOk 2 n askedN := by
  refine ⟨fun A c W w hW hA => ?_, fun W hW => ⟨by simp [askedN, listF, hW.len], fun i hi => ?_⟩⟩
  · have HK := hide (ask_any A n c _ W w hW hA)
    clear hA hW
    go_enter Try.func71, Try.ntmps71
    go_wp2_with (go_at_call 89; refine (HK.out).mono ?_; rintro e w2 ⟨H, c', rfl, hI, hb2, hn2⟩; have HN := hide hn2; clear hn2)
    go_ret
    exact ⟨H, c', rfl, hI, hb2, HN.out⟩
  · have h := asked_ok hW.rows i hi
    have e : (askedN W).getD i 0 = (asked W n i).toNat := by simp [askedN, listF, hW.len, List.getD_eq_getElem?_getD, hi]
    rw [e]; omega
end Go.Proofs.Ytilnbiaabhdfgaa
