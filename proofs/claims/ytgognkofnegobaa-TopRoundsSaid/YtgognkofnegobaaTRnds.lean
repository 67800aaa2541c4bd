/-
  split.Rounds, of as many goods as people.
-/
import Derived.Test.YtgognkofnegobaaTVal
import Derived.Test.YtgognkofnegobaaTRepeat
import Derived.Test.YtgognkofnegobaaRoundsP
import Derived.BigQuiet
import Derived.Deep.DeepCutAuto
namespace Go.Proofs.Ytgognkofnegobaa
open Go.RowKit
set_option linter.unusedVariables false
set_option linter.unusedSimpArgs false

set_option maxHeartbeats 800000 in
theorem goods_any (A : Option Addr) (n c B : Nat) (L : List (List Int)) (w : World) (hS : SqV L n) (hA : RowsA w B A L) :
    Calls Try.prog 81 #[.slice A n c] w fun e w' => e = .returned (.int .i64 (n : Nat)) ∧ w = w' := by
  have hpos := hS.pos
  obtain ⟨b0, o0, A0, m, c0, rfl, hb0, hc0, hx0, hle0, hI0⟩ := hA.at_ (k := 0) (by rw [hS.len]; omega)
  obtain rfl : n = m := by rw [← hx0.out, hS.rows 0 (by omega)]
  rw [Nat.add_zero] at hc0
  have hi0 : (0 : Int) < (n : Int) := by omega
  clear hA hI0 hx0 hS
  go_enter Try.func81, Try.ntmps81
  go_wp2
  go_ret
  exact ⟨rfl, rfl⟩
set_option maxHeartbeats 800000 in
theorem nobody_any (A : Option Addr) (n c B : Nat) (L : List (List Int)) (w : World) (hS : SqV L n) (hA : RowsA w B A L) :
    Calls Try.prog 50 #[.slice A n c] w fun e w' => ∃ g, e = .returned (.slice (some ⟨g, 0, none⟩) n n) ∧ w.heap.size ≤ g ∧ w'.rowIs g 3 n (fun _ => .int .i64 (-1)) ∧ Below w.heap.size w w' := by
  have hle := hS.le
  have hpos := hS.pos
  obtain ⟨w1, hw1⟩ : ∃ w1, w1 = w.alloc (.cells #[.int .i64 (-1)] 3) := ⟨_, rfl⟩
  have hb1 : Below w.heap.size w w1 := by subst hw1; exact (Below.refl _ _).alloc (Nat.le_refl _) _
  have hbx : w1.heap[w.heap.size]? = some (.cells #[.int .i64 (-1)] 3 (0, 0)) := by rw [hw1]; exact alloc_new _ _ _ rfl
  have HG := hide (goods_any A n c w.heap.size L w1 hS (hA.top.below hb1))
  have HR := hide (repeat_any n w.heap.size hpos (by omega) w1 (-1) (by have := blk_cell hbx 0; simpa using this))
  have HB := hide hb1
  have HW := hide hw1
  clear hA hS hw1 hb1 hbx
  go_enter Try.func50, Try.ntmps50
  go_wp2_with fail
  rw [← HW.out]
  refine (HG.out).mono ?_
  rintro e w' ⟨rfl, rfl⟩
  go_wp2_with fail
  refine (HR.out).mono ?_
  rintro e w2 ⟨rfl, h1, h2⟩
  have H1 := hide h1
  have H2 := hide (HB.out.trans (h2.mono HB.out.size))
  clear h1 h2
  go_wp2
  go_ret
  exact ⟨_, rfl, HB.out.size, H1.out, H2.out⟩

/-- What Rounds gives. -/
def RndPost (L : List (List Int)) (n : Nat) (w : World) (e : Ending) (w' : World) : Prop :=
  ∃ X D C, e = .returned (.tuple #[.slice X n n, .int .i64 0]) ∧ D.length = n ∧ IntsA w' w'.heap.size X D ∧ RndTo (fun i g => (L.getD i []).getD g 0) n n (fun g => D.getD g 0) C ∧ Below w.heap.size w w'

set_option maxRecDepth 100000 in
set_option maxHeartbeats 3200000 in
theorem srounds_any (A : Option Addr) (n c B : Nat) (L : List (List Int)) (w : World) (hS : SqV L n) (hA : RowsA w B A L) :
    Calls Try.prog 28 #[.slice A n c] w (RndPost L n w) := by
  have hle := hS.le
  have hpos := hS.pos
  have hA0 := hA.top
  have HVA := hide (svalid_any A n c w.heap.size L w hS hA0)
  have HNO := hide (fun w' (hb : Below w.heap.size w w') => nobody_any A n c w.heap.size L w' hS (hA0.below hb))
  have HA := hide hA0
  have HS := hide hS
  clear hS hA hA0
  go_enter Try.func28, Try.ntmps28
  go_wp2_with fail
  refine (HVA.out).mono ?_
  rintro e w1 ⟨rfl, hb1⟩
  have HB1 := hide hb1
  clear hb1
  go_wp2_with fail
  refine (HNO.out _ HB1.out).mono ?_
  rintro e w2 ⟨g, rfl, hg, hr2, hb2⟩
  have HR2 := hide hr2
  have HB2 := hide (HB1.out.trans (hb2.mono HB1.out.size))
  have hwg : w.heap.size ≤ g := Nat.le_trans HB1.out.size hg
  clear hr2 hb2 HVA HNO
  go_wp2
  go_loopw [19] (fun i wr => ∃ (t : Nat) (D : List Int) (C : Nat → Nat), t ≤ n ∧ i = .int .i64 (t : Nat) ∧ Hid (D.length = n) ∧ Hid (wr.rowIs g 3 n (fun k => .int .i64 (D.getD k 0))) ∧ Hid (RndTo (fun i g => (L.getD i []).getD g 0) n t (fun k => D.getD k 0) C) ∧ Hid (Below w.heap.size w wr)) (fun i _ => n - (intOf i).toNat)
  case atStart =>
    have h2 : ∀ k, k < n → (List.replicate n (-1 : Int)).getD k 0 = -1 := fun k hk => by rw [List.getD_eq_getElem?_getD, List.getElem?_replicate, if_pos hk]; rfl
    exact ⟨0, List.replicate n (-1), fun _ => 0, Nat.zero_le _, rfl, hide (by simp), hide (HR2.out.congr fun k hk => by rw [h2 k hk]), hide (RndTo.zero _ n _ _ h2), HB2⟩
  case round =>
    clear HR2 HB2
    obtain ⟨t, D, C, ht, rfl, HDL, HRO, HRT, HBR⟩ := hrel
    by_cases htn : t < n
    · have htn' : (t : Int) < (n : Int) := by omega
      obtain ⟨wo, rfl⟩ : ∃ wo : World, wo = wr := ⟨_, rfl⟩
      have hmod : ((t : Int) % (n : Int)) = (t : Int) := Int.emod_eq_of_lt (by omega) (by omega)
      have hmt : Int.tmod (t : Int) (n : Int) = (t : Int) := Int.tmod_eq_of_lt (by omega) (by omega)
      have hn0 : ((n : Int) == 0) = false := by simp; omega
      go_upto_region 9 with (fail)
      go_wp2
      go_loopw [8, 28] (fun b i wx => ∃ (k : Nat) (best : Int), k ≤ n ∧ i = .int .i64 (k : Nat) ∧ b = .int .i64 best ∧ Hid (PickTo (fun g => (L.getD t []).getD g 0) (fun k => D.getD k 0) k best) ∧ Hid (wx.rowIs g 3 n (fun k => .int .i64 (D.getD k 0))) ∧ Hid (Below w.heap.size w wx)) (fun _ i _ => n - (intOf i).toNat)
      case atStart => exact ⟨0, -1, Nat.zero_le _, rfl, rfl, hide (PickTo.zero _ _), HRO, HBR⟩
      case round =>
        clear HRO HBR
        obtain ⟨k, best, hk, rfl, rfl, HPI, HRO, HBR⟩ := hrel
        by_cases hkn : k < n
        · have hkn' : (k : Int) < (n : Int) := by omega
          have hdc := HRO.out.cell hkn
          obtain ⟨d, hd⟩ : ∃ d, D.getD k 0 = d := ⟨_, rfl⟩
          rw [hd] at hdc
          have HD := hide hd
          clear hd
          by_cases hf : d < 0
          case neg =>
            have f1 : decide (d < 0) = false := decide_eq_false hf
            have HPN := hide (HPI.out.skip (by show ¬ D.getD k 0 < 0; rw [HD.out]; exact hf))
            go_wp2
            go_quiet (fail)
            go_wp2
            go_roundw
            case rel => exact ⟨k + 1, best, by omega, by go_num, rfl, HPN, hide (HRO.out.of_block rfl), hide (below_drewN HBR.out _)⟩
            case measure => simp [intOf]; omega
          have f1 : decide (d < 0) = true := decide_eq_true hf
          have HFR : Hid (D.getD k 0 < 0) := by show _ < _; rw [HD.out]; exact hf
          rcases HPI.out.cases with hbm | ⟨b, hbb⟩
          · subst hbm
            have HPN := hide (HPI.out.first (by omega) HFR.out)
            go_wp2
            go_quiet (fail)
            go_wp2
            go_roundw
            case rel => exact ⟨k + 1, (k : Nat), by omega, by go_num, rfl, HPN, hide (HRO.out.of_block rfl), hide (below_drewN HBR.out _)⟩
            case measure => simp [intOf]; omega
          · subst hbb
            have f2 : decide ((b : Int) < 0) = false := decide_eq_false (by omega)
            have hbk := HPI.out.lt.1
            have hbn : (b : Int) < (n : Int) := by omega
            obtain ⟨bA, oA, At, nt, ct, rfl, hbA, hcA, hxA, hlA, hIA⟩ := (HA.out.below HBR.out).at_ (k := t) (by rw [HS.out.len]; exact htn)
            obtain rfl : n = nt := by rw [← hxA.out, HS.out.rows t htn]
            obtain ⟨bB, oB, x, rfl, hbB, hcB, hxB⟩ := hIA.at_ (k := k) (by rw [hxA.out]; exact hkn)
            obtain ⟨bC, oC, y, eC, hbC, hcC, hxC⟩ := hIA.at_ (k := b) (by rw [hxA.out]; omega)
            injection eC with eC; injection eC with e1 e2
            subst e1; subst e2
            have HX := hide hxB.out
            have HY := hide hxC.out
            clear hxA hIA hxB hxC hlA
            by_cases hxy : y < x
            · have f3 : decide (y < x) = true := decide_eq_true hxy
              have HPN := hide (HPI.out.more HFR.out (by show (L.getD t []).getD b 0 < (L.getD t []).getD k 0; rw [HX.out, HY.out]; exact hxy))
              go_wp2
              go_quiet (fail)
              go_wp2
              go_roundw
              case rel => exact ⟨k + 1, (k : Nat), by omega, by go_num, rfl, HPN, hide (HRO.out.of_block rfl), hide (below_drewN HBR.out _)⟩
              case measure => simp [intOf]; omega
            · have f3 : decide (y < x) = false := decide_eq_false hxy
              have HPN := hide (HPI.out.less HFR.out (by show ¬ (L.getD t []).getD b 0 < (L.getD t []).getD k 0; rw [HX.out, HY.out]; exact hxy))
              go_wp2
              go_quiet (fail)
              go_wp2
              go_roundw
              case rel => exact ⟨k + 1, (b : Nat), by omega, by go_num, rfl, HPN, hide (HRO.out.of_block rfl), hide (below_drewN HBR.out _)⟩
              case measure => simp [intOf]; omega
        · obtain rfl : n = k := by omega
          obtain ⟨b, hbn, hbb⟩ := HRT.out.pick htn HPI.out
          subst hbb
          have hbn' : (b : Int) < (n : Int) := by omega
          have hcb := HRO.out.cell hbn
          have hfb := HRO.out.frozen b
          have hgl := HRO.out.lt
          have HNX := hide (HRT.out.next HPI.out (D' := fun k => (D.set b (t : Int)).getD k 0) (fun k hk => by
            have hl := HDL.out
            simp only [List.getD_eq_getElem?_getD, List.getElem?_set]
            by_cases e : k = b
            · subst e; simp [hl, hk]
            · rw [if_neg (by omega), if_neg e]))
          have HRN : Hid ((wr.setCell ⟨g, b, none⟩ (.int .i64 (t : Nat))).rowIs g 3 n (fun k => .int .i64 ((D.set b (t : Int)).getD k 0))) := (HRO.out.set b (.int .i64 (t : Nat))).congr fun k hk => by
            have hl := HDL.out
            simp only [List.getD_eq_getElem?_getD, List.getElem?_set]
            by_cases e : k = b
            · subst e; simp [hl, hk]
            · rw [if_neg e, if_neg (by omega)]
          have HBN : Hid (Below w.heap.size w (wr.setCell ⟨g, b, none⟩ (.int .i64 (t : Nat)))) := HBR.out.setCell (by show w.heap.size ≤ g; exact hwg) _
          go_wp2
          go_roundw
          case rel => exact ⟨t + 1, D.set b (t : Int), _, by omega, by go_num, hide (by rw [List.length_set]; exact HDL.out), HRN, HNX, HBN⟩
          case measure => simp [intOf]; omega
    · obtain rfl : n = t := by omega
      go_wp2
      go_ret2
      exact ⟨some ⟨g, 0, none⟩, D, C, rfl, HDL.out, ints_of_row HRO.out HDL.out.symm fun i hi => rfl, HRT.out, HBR.out⟩
end Go.Proofs.Ytgognkofnegobaa
