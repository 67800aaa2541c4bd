/-
  The reference's Traded: the trading rule from whatever everyone has first.
-/
import Derived.Test.YtilnbiaabhdfgaaRefValid
import Derived.Test.YtilnbiaabhdfgaaBase
import Derived.Deep.DeepCutAuto
namespace Go.Proofs.Ytilnbiaabhdfgaa
open Go.RowKit
set_option linter.unusedVariables false
set_option linter.unusedSimpArgs false

/-- The rows that the call fills. -/
structure RfMem (w wr : World) (n bo br : Nat) (out rounds : Nat → Nat) : Prop where
  ro : wr.rowIs bo 3 n (fun i => .int .i64 (out i))
  rr : wr.rowIs br 3 n (fun i => .int .i64 (rounds i))
  bel : Below w.heap.size w wr
section
variable {w wr w1 : World} {n bo br : Nat} {out rounds : Nat → Nat}
theorem RfMem.next (h : RfMem w wr n bo br out rounds) (hb : Below wr.heap.size wr w1) : RfMem w w1 n bo br out rounds :=
  ⟨h.ro.of_block (hb.block _ h.ro.lt), h.rr.of_block (hb.block _ h.rr.lt), h.bel.trans (hb.mono h.bel.size)⟩
theorem RfMem.setBoth (h : RfMem w wr n bo br out rounds) (hd : bo ≠ br ∧ w.heap.size ≤ bo ∧ w.heap.size ≤ br) (j x y : Nat) :
    RfMem w ((wr.setCell ⟨bo, j, none⟩ (.int .i64 (x : Int))).setCell ⟨br, j, none⟩ (.int .i64 (y : Int))) n bo br (fun i => if i = j then x else out i) (fun i => if i = j then y else rounds i) := by
  obtain ⟨h1, h6, h7⟩ := hd
  refine ⟨((h.ro.set j _).setOther (by show bo ≠ br; omega) _).congr (fun i _ => ?_), ((h.rr.setOther (by show br ≠ bo; omega) _).set j _).congr (fun i _ => ?_), (h.bel.setCell (by show w.heap.size ≤ bo; omega) _).setCell (by show w.heap.size ≤ br; omega) _⟩
  · split <;> rfl
  · split <;> rfl
theorem RfMem.far (h : RfMem w wr n bo br out rounds) {b i : Nat} (v : Value) (h1 : bo ≠ b) (h2 : br ≠ b) (h3 : w.heap.size ≤ b) : RfMem w (wr.setCell ⟨b, i, none⟩ v) n bo br out rounds :=
  ⟨h.ro.setOther (by show bo ≠ b; omega) _, h.rr.setOther (by show br ≠ b; omega) _, h.bel.setCell (by show w.heap.size ≤ b; omega) _⟩
theorem RfMem.congr (h : RfMem w wr n bo br out rounds) {out' rounds' : Nat → Nat} (ho : ∀ i, i < n → out i = out' i) (hr : ∀ i, i < n → rounds i = rounds' i) : RfMem w wr n bo br out' rounds' :=
  ⟨h.ro.congr (fun i hi => by rw [ho i hi]), h.rr.congr (fun i hi => by rw [hr i hi]), h.bel⟩
end
theorem two_made (w : World) (n e : Nat) (w3 : World) (hw3 : w3 = ((w.alloc (.cells (madeCells #[.int .i64 0] n) e)).alloc (.cells (madeCells #[.int .i64 0] n) e))) :
    w3.drew.rowIs w.heap.size e n (fun _ => .int .i64 0) ∧ w3.drew.rowIs (w.heap.size + 1) e n (fun _ => .int .i64 0) ∧ Below w.heap.size w w3.drew := by
  subst hw3
  have e1 := World.rowIs_made w (.int .i64 0) n e
  have e2 := World.rowIs_made (w.alloc (.cells (madeCells #[.int .i64 0] n) e)) (.int .i64 0) n e
  have s1 : (w.alloc (.cells (madeCells #[.int .i64 0] n) e)).heap.size = w.heap.size + 1 := by simp
  rw [s1] at e2
  exact ⟨(e1.alloc _).drew, e2.drew, (((Below.refl _ _).alloc (Nat.le_refl _) _).alloc (by rw [s1]; omega) _).drew⟩

/-- What the loop over the places from the back has found: the owner of the first thing that is left. -/
def toVal (has : List Nat) (T : Nat) (l : List Nat) : Nat := l.foldr (fun g acc => if T.testBit g then place has g else acc) 0
theorem toVal_drop {has l : List Nat} {T k : Nat} (hk : k < l.length) : toVal has T (l.drop k) = if T.testBit (l.getD k 0) then place has (l.getD k 0) else toVal has T (l.drop (k + 1)) := by
  rw [List.drop_eq_getElem_cons hk, List.getD_eq_getElem?_getD, List.getElem?_eq_getElem hk]; rfl
theorem toVal_best {has l : List Nat} {T : Nat} (h : ∃ g ∈ l, T.testBit g = true) : toVal has T l = place has (best l T) := by
  induction l with
  | nil => obtain ⟨g, hg, _⟩ := h; cases hg
  | cons x l ih =>
    simp only [toVal, List.foldr_cons, best, List.find?_cons]
    cases hx : T.testBit x with
    | true => rfl
    | false =>
      simp only [Bool.false_eq_true, if_false]
      exact ih (by
        obtain ⟨g, hg, hm⟩ := h
        rcases List.mem_cons.1 hg with rfl | hg
        · rw [hx] at hm; cases hm
        · exact ⟨g, hg, hm⟩)
set_option maxRecDepth 100000 in
set_option maxHeartbeats 3200000 in
theorem refTraded_any (A H : Option Addr) (n c c' B : Nat) (W : List (List Nat)) (has : List Nat) (w : World) (hn60 : n ≤ 60) (hA : RowsA w B A (upp W)) (hH : IntsA w B H (up has)) (hM : Mkt W has n) :
    Calls Try.prog 51 #[.slice A n c, .slice H n c'] w (TwoRows n (listF n (traded W has).1) (listF n (traded W has).2) w) := by
  have hmk := run_make_row' (P := Try.prog) 23 3 (.int .i64 0) 8 Try.underlying23 info_int rfl .i64 .i64 n (by omega) (by omega)
  go_enter Try.func51, Try.ntmps51
  go_upto_region 2 with (fail)
  go_cut [7, 8] (fun so sr wx => ∃ bo br : Nat, so = .slice (some ⟨bo, 0, none⟩) n n ∧ sr = .slice (some ⟨br, 0, none⟩) n n ∧ bo ≠ br ∧ w.heap.size ≤ bo ∧ w.heap.size ≤ br ∧
    wx.rowIs bo 3 n (fun _ => .int .i64 0) ∧ wx.rowIs br 3 n (fun _ => .int .i64 0) ∧ Below w.heap.size w wx)
  case first =>
    go_region
    · go_wp2_with fail
      go_meet
      have h := two_made w n 3 _ rfl
      exact ⟨w.heap.size, w.heap.size + 1, rfl, rfl, by omega, by omega, by omega, h.1, h.2.1, h.2.2⟩
    · go_wp2_with fail
      go_meet
      have h := two_made w n 3 _ rfl
      exact ⟨w.heap.size + 1, w.heap.size, rfl, rfl, by omega, by omega, by omega, h.2.1, h.1, h.2.2⟩
  case rest =>
    obtain ⟨bo, br, rfl, rfl, hne, hbo, hbr, hro, hrr, hbel⟩ := hcut
    have hL := full_nat n (by omega)
    have hm0 : RfMem w wc n bo br (fun _ => 0) (fun _ => 0) := ⟨hro, hrr, hbel⟩
    have hd : bo ≠ br ∧ w.heap.size ≤ bo ∧ w.heap.size ≤ br := ⟨hne, hbo, hbr⟩
    have HD := hide hd
    have HL := hide hL
    clear hro hrr hbel hL hd hne hbo hbr
    have hA1 := hA.top
    have hH1 := hH.top
    go_wp2
    go_loopw [9, 10] (fun l r wr => ∃ (L T q fuel : Nat) (out rounds : Nat → Nat), l = .int .i64 L ∧ r = .int .i64 q ∧ q + fuel ≤ n ∧ RfMem w wr n bo br out rounds ∧
        Hid (LeftOk has n L T ∧ cardF n L ≤ fuel ∧ ttc W has n fuel L T q out rounds = traded W has)) (fun l _ _ => (intOf l).toNat)
    case atStart =>
      refine ⟨2 ^ n - 1, 2 ^ n - 1, 0, n, _, _, by rw [HL.out], rfl, by omega, hm0, hM.start, cardF_le _ _, ?_⟩
      rw [traded, hM.len]
    case round =>
      obtain ⟨L, T, q, fuel, out, rounds, rfl, rfl, hq, hmem, HP⟩ := hrel
      clear hm0
      by_cases hL0 : L = 0
      · have hz : ¬ ((0 : Int) < (L : Int)) := by omega
        have HL0 := hide hL0
        clear hL0
        go_wp2
        go_ret2
        have hres : traded W has = (out, rounds) := by
          rw [← HP.out.2.2, HL0.out]
          cases fuel <;> simp [ttc]
        refine ⟨some ⟨bo, 0, none⟩, some ⟨br, 0, none⟩, n, n, rfl, ?_, ?_, hmem.bel, fun g hg => by simp [Value.ownBlock] at hg; have := HD.out; omega, fun g hg => by simp [Value.ownBlock] at hg; have := HD.out; omega⟩
        · rw [hres]
          exact ints_of_row hmem.ro (by simp [listF]) (fun i hi => by rw [up_getD]; simp [listF, List.getD_eq_getElem?_getD, hi])
        · rw [hres]
          exact ints_of_row hmem.rr (by simp [listF]) (fun i hi => by rw [up_getD]; simp [listF, List.getD_eq_getElem?_getD, hi])
      · have hlk := HP.out.1
        have hL62 : L < 2 ^ 60 := Nat.lt_of_lt_of_le hlk.lt (Nat.pow_le_pow_right (by decide) hn60)
        have HLK := hide hlk
        have hLp : 0 < L := by omega
        have HNZ : Hid (L ≠ 0) := hL0
        clear hlk hL0
        have hTne : ∃ g, g < n ∧ T.testBit g = true := by
          obtain ⟨i, hi⟩ := exists_bit HNZ.out
          have hin := testBit_lt HLK.out.lt hi
          exact ⟨has.getD i 0, hM.has_lt hin, (HLK.out.things _).2 ⟨i, hin, hi, rfl⟩⟩
        have hTV : ∀ i, i < n → toVal has T (W.getD i []) = nextF W has T i := fun i hi => by
          obtain ⟨g, hg, hb⟩ := hTne
          exact toVal_best ⟨g, ((hM.rows i hi).2 g).2 hg, hb⟩
        have HTV := hide hTV
        clear hTne hTV
        go_wp2
        have hm1 : RfMem w (wr.alloc (.cells (madeCells #[.int .i64 0] n) 3)) n bo br out rounds := hmem.next ((Below.refl _ _).alloc (Nat.le_refl _) _)
        have hrt := World.rowIs_made wr (.int .i64 0) n 3
        have hbt1 : bo ≠ wr.heap.size ∧ br ≠ wr.heap.size ∧ w.heap.size ≤ wr.heap.size := ⟨by have := hmem.ro.lt; omega, by have := hmem.rr.lt; omega, hmem.bel.size⟩
        generalize wr.heap.size = bt at *
        have HBT := hide hbt1
        clear hbt1 hmem hmk
        go_loopw [35] (fun k wi => ∃ j : Nat, j ≤ n ∧ k = .int .i64 j ∧ RfMem w wi n bo br out rounds ∧ wi.rowIs bt 3 n (fun i => .int .i64 ((if i < j then toVal has T (W.getD i []) else 0 : Nat) : Int))) (fun k _ => n - (intOf k).toNat)
        case atStart => exact ⟨0, Nat.zero_le _, rfl, hm1, hrt.congr (fun i _ => by simp)⟩
        case round =>
          clear hm1 hrt
          obtain ⟨j, hj, rfl, hm, hrt⟩ := hrel
          by_cases hlt : j < n
          · have hlenj := (hM.rows j hlt).1
            have HLJ := hide hlenj
            clear hlenj
            go_wp2
            go_loopw [13] (fun k wi => ∃ z : Int, -1 ≤ z ∧ z < n ∧ k = .int .i64 z ∧ RfMem w wi n bo br out rounds ∧
                wi.rowIs bt 3 n (fun i => .int .i64 ((if i < j then toVal has T (W.getD i []) else if i = j then toVal has T ((W.getD j []).drop (z + 1).toNat) else 0 : Nat) : Int))) (fun k _ => (intOf k + 1).toNat)
            case atStart =>
              refine ⟨(n : Int) - 1, by omega, by omega, rfl, hm, hrt.congr (fun i _ => ?_)⟩
              by_cases e : i = j
              · subst e
                rw [if_neg (by omega), if_neg (by omega), if_pos rfl, List.drop_of_length_le (by rw [HLJ.out]; omega)]; rfl
              · by_cases e2 : i < j
                · rw [if_pos e2, if_pos e2]
                · rw [if_neg e2, if_neg e2, if_neg e]
            case round =>
              clear hm hrt
              obtain ⟨z, hz1, hz2, rfl, hm, hrt⟩ := hrel
              by_cases hz : z < 0
              · obtain rfl : z = -1 := by omega
                go_wp2
                go_roundw
                case rel =>
                  refine ⟨j + 1, by omega, by go_num, hm, hrt.congr (fun i _ => ?_)⟩
                  by_cases e : i = j
                  · subst e; rw [if_neg (by omega), if_pos rfl, if_pos (by omega)]; rfl
                  · by_cases e2 : i < j
                    · rw [if_pos e2, if_pos (by omega)]
                    · rw [if_neg e2, if_neg e, if_neg (by omega)]
                case measure => simp [intOf] <;> omega
              · obtain ⟨m, rfl⟩ := Int.eq_ofNat_of_zero_le (show 0 ≤ z by omega)
                have hmn : m < n := by omega
                obtain ⟨b, o, A', n', c1, rfl, hb, hc, hx, hle, hI⟩ := (hA1.below hm.bel).at_ (k := j) (by rw [upp_length, hM.len]; exact hlt)
                rw [upp_getD] at hI hx
                have hn' : Hid (n' = n) := by show n' = n; rw [← hx.out, up_length, HLJ.out]
                obtain ⟨b2, o2, x, rfl, hb2, hc2, hx2⟩ := hI.at_ (k := m) (by rw [up_length, HLJ.out]; exact hmn)
                have hx3 := hx2.out
                rw [up_getD] at hx3
                have hgn : (W.getD j []).getD m 0 < n := ((hM.rows j hlt).2 _).1 (getD_mem (by rw [HLJ.out]; exact hmn))
                have hdrop := toVal_drop (has := has) (T := T) (l := W.getD j []) (k := m) (by rw [HLJ.out]; exact hmn)
                generalize hgg : (W.getD j []).getD m 0 = g at hx3 hgn hdrop
                subst hx3
                have HDR := hide hdrop
                have hidx : idx (up has) (g : Int) = (place has g : Int) := idx_up_mem ((hM.hmem g).2 hgn)
                have HRK : Hid (∀ w', Below w.heap.size w w' → Calls Try.prog 61 #[.slice H n c', .int .i64 (g : Nat)] w' fun e w'' => e = .returned (.int .i64 (place has g : Nat)) ∧ w' = w'') := fun w' hw' => by
                  rw [← hidx]; exact rank_any H n c' w.heap.size (up has) g w' (by rw [up_length, hM.hlen]) (by omega) (hH1.below hw')
                have hpl : place has g < n := by have := (place_lt ((hM.hmem g).2 hgn)).1; rwa [hM.hlen] at this
                have htb : L.testBit (place has g) = T.testBit g := hM.left_owner HLK.out hgn
                have hsh := shr_test L (place has g) (by omega)
                rw [htb] at hsh
                have hmn' : m < n' := by rw [hn'.out]; exact hmn
                clear hgg hx hx2 hI hdrop hidx htb
                generalize place has g = pl at *
                cases hT : T.testBit g
                · rw [hT] at hsh
                  have HT := hide hT
                  clear hT
                  go_wp2_with (go_at_call 61; refine (HRK.out _ hm.bel).mono ?_; rintro e w' ⟨rfl, rfl⟩)
                  go_roundw
                  case rel =>
                    refine ⟨(m : Int) - 1, by omega, by omega, rfl, hm, hrt.congr (fun i _ => ?_)⟩
                    by_cases e : i = j
                    · subst e
                      rw [if_neg (by omega), if_pos rfl, if_neg (by omega), if_pos rfl, show ((m : Int) - 1 + 1).toNat = m from by omega, HDR.out, HT.out, show ((m : Int) + 1).toNat = m + 1 from by omega]; rfl
                    · by_cases e2 : i < j
                      · rw [if_pos e2, if_pos e2]
                      · rw [if_neg e2, if_neg e2, if_neg e, if_neg e]
                  case measure => simp [intOf] <;> omega
                · rw [hT] at hsh
                  have HT := hide hT
                  clear hT
                  obtain ⟨v1, o1⟩ : ∃ v, wr.cell? ⟨bt, j, none⟩ = some v := ⟨_, hrt.cell hlt⟩
                  have f1 := hrt.frozen j
                  go_wp2_with (go_at_call 61; refine (HRK.out _ hm.bel).mono ?_; rintro e w' ⟨rfl, rfl⟩)
                  go_roundw
                  case rel =>
                    refine ⟨(m : Int) - 1, by omega, by omega, rfl, hm.far _ HBT.out.1 HBT.out.2.1 HBT.out.2.2, (hrt.set j _).congr (fun i _ => ?_)⟩
                    by_cases e : i = j
                    · subst e
                      rw [if_pos rfl, if_neg (by omega), if_pos rfl, show ((m : Int) - 1 + 1).toNat = m from by omega, HDR.out, HT.out]; rfl
                    · by_cases e2 : i < j
                      · rw [if_neg e, if_pos e2, if_pos e2]
                      · rw [if_neg e, if_neg e2, if_neg e2, if_neg e, if_neg e]
                  case measure => simp [intOf] <;> omega
          · obtain rfl : n = j := by omega
            have hrf : wr.rowIs bt 3 n (fun i => .int .i64 (nextF W has T i : Nat)) := hrt.congr (fun i hi => by rw [if_pos hi, HTV.out i hi])
            clear hrt
            obtain ⟨p, hp⟩ : ∃ p : Nat → Bool, p = fun i => L.testBit i && onCyc (nextF W has T) n i := ⟨_, rfl⟩
            have HPP := hide hp
            clear hp
            go_wp2
            go_loopw [15, 64] (fun g k wi => ∃ j : Nat, j ≤ n ∧ k = .int .i64 j ∧ g = .int .i64 (maskF j p : Nat) ∧ RfMem w wi n bo br out rounds ∧ wi.rowIs bt 3 n (fun i => .int .i64 (nextF W has T i : Nat))) (fun _ k _ => n - (intOf k).toNat)
            case atStart => exact ⟨0, Nat.zero_le _, rfl, rfl, hm, hrf⟩
            case round =>
              clear hm hrf
              obtain ⟨j, hj, rfl, rfl, hm, hrf⟩ := hrel
              by_cases hlt : j < n
              · have hgl : maskF j p < 2 ^ 60 := Nat.lt_of_lt_of_le (maskF_lt j p) (Nat.pow_le_pow_right (by decide) (by omega))
                cases hb : L.testBit j
                · have ht : (bits BinOp.and IntKind.i64 ((L : Int) / 2 ^ j) 1 == 1) = false := by rw [shr_test L j (by omega)]; exact hb
                  have hpj : p j = false := by rw [HPP.out]; simp [hb]
                  have HPJ := hide hpj
                  clear hpj hb
                  go_wp2
                  go_loop [15, 17, 69] (fun g at_ d => ∃ q : Nat, q ≤ n ∧ d = .int .i64 q ∧ at_ = .int .i64 j ∧ g = .int .i64 (maskF j p : Nat)) (fun _ _ d => n - (intOf d).toNat)
                  case atStart => exact ⟨0, Nat.zero_le _, rfl, rfl, rfl⟩
                  case round =>
                    obtain ⟨d, hd, rfl, rfl, rfl⟩ := hrel
                    by_cases hdn : d < n
                    · go_wp2
                      go_round
                      case rel => exact ⟨d + 1, by omega, by go_num, rfl, rfl⟩
                      case measure => simp [intOf] <;> omega
                    · go_wp2
                      go_roundw
                      case rel => exact ⟨j + 1, by omega, by go_num, by simp [maskF, HPJ.out], hm, hrf⟩
                      case measure => simp [intOf] <;> omega
                · have ht : (bits BinOp.and IntKind.i64 ((L : Int) / 2 ^ j) 1 == 1) = true := by rw [shr_test L j (by omega)]; exact hb
                  have HIN : Hid (∀ k, iter (nextF W has T) k j < n) := fun k => by
                    have : ∀ k, LeftS n L (iter (nextF W has T) k j) := fun k => by
                      induction k with
                      | zero => exact ⟨hlt, hb⟩
                      | succ k ih => exact hM.closed HLK.out _ ih
                    exact (this k).1
                  obtain ⟨C, hC⟩ : ∃ C : Nat → Bool, C = fun d => (List.range d).any fun k => iter (nextF W has T) (k + 1) j == j := ⟨_, rfl⟩
                  have HC := hide hC
                  have hpj : Hid (p j = C n) := by show _ = _; rw [HPP.out, hC]; simp [hb, onCyc]
                  have hor : bits BinOp.or IntKind.i64 (maskF j p : Nat) (wrap64 (2 ^ j)) = ((maskF j p ||| 2 ^ j : Nat) : Int) := by
                    rw [shl_one j (by omega), bor_nat _ _ (by omega) (Nat.pow_lt_pow_right (by decide) (by omega))]
                  have hor2 : bits BinOp.or IntKind.i64 (maskF j p ||| 2 ^ j : Nat) (wrap64 (2 ^ j)) = ((maskF j p ||| 2 ^ j : Nat) : Int) := by
                    rw [shl_one j (by omega), bor_nat _ _ (Nat.or_lt_two_pow (by omega) (Nat.pow_lt_pow_right (by decide) (by omega))) (Nat.pow_lt_pow_right (by decide) (by omega)), Nat.or_assoc, Nat.or_self]
                  clear hb hC
                  go_wp2
                  go_loop [15, 17, 69] (fun g at_ d => ∃ q : Nat, q ≤ n ∧ d = .int .i64 q ∧ at_ = .int .i64 (iter (nextF W has T) q j : Nat) ∧ g = .int .i64 ((if C q then maskF j p ||| 2 ^ j else maskF j p : Nat) : Int)) (fun _ _ d => n - (intOf d).toNat)
                  case atStart => exact ⟨0, Nat.zero_le _, rfl, rfl, by rw [HC.out]; rfl⟩
                  case round =>
                    obtain ⟨d, hd, rfl, rfl, rfl⟩ := hrel
                    by_cases hdn : d < n
                    · have hx := HIN.out d
                      have hstep : Hid (iter (nextF W has T) (d + 1) j = nextF W has T (iter (nextF W has T) d j)) := rfl
                      have hcs : Hid (C (d + 1) = (C d || (iter (nextF W has T) (d + 1) j == j))) := by
                        show _ = _
                        rw [HC.out]; dsimp only; rw [List.range_succ, List.any_append]; simp
                      have hcell := hrf.cell hx
                      generalize hgi : iter (nextF W has T) d j = x at *
                      generalize hgy : nextF W has T x = y at *
                      clear hgi hgy
                      by_cases he : y = j
                      · have h1 : ((y : Int) == (j : Int)) = true := by simp [he]
                        have HE := hide he
                        clear he
                        cases hCd : C d
                        · have HCD := hide hCd
                          clear hCd
                          simp only [Bool.false_eq_true, if_false]
                          go_wp2
                          go_round
                          case rel => exact ⟨d + 1, by omega, by go_num, by rw [hstep.out], by rw [hcs.out, hstep.out, HE.out]; simp⟩
                          case measure => simp [intOf] <;> omega
                        · have HCD := hide hCd
                          clear hCd
                          simp only [if_true]
                          go_wp2
                          go_round
                          case rel => exact ⟨d + 1, by omega, by go_num, by rw [hstep.out], by rw [hcs.out, hstep.out, HE.out]; simp⟩
                          case measure => simp [intOf] <;> omega
                      · have h1 : ((y : Int) == (j : Int)) = false := by simp; omega
                        have HE : Hid (¬ y = j) := he
                        clear he
                        have HCE : Hid (C (d + 1) = C d) := by show _ = _; rw [hcs.out, hstep.out]; simp [HE.out]
                        go_wp2
                        go_round
                        case rel => exact ⟨d + 1, by omega, by go_num, by rw [hstep.out], by rw [HCE.out]⟩
                        case measure => simp [intOf] <;> omega
                    · obtain rfl : n = d := by omega
                      go_wp2
                      go_roundw
                      case rel =>
                        refine ⟨j + 1, by omega, by go_num, ?_, hm, hrf⟩
                        simp only [maskF, hpj.out]
                      case measure => simp [intOf] <;> omega
              · obtain rfl : n = j := by omega
                have hG : goneF W has n L T = maskF n p := by rw [HPP.out]; rfl
                have hGl : maskF n p < 2 ^ n := maskF_lt n p
                have hG62 : maskF n p < 2 ^ 60 := Nat.lt_of_lt_of_le hGl (Nat.pow_le_pow_right (by decide) hn60)
                have hand : bits BinOp.andNot IntKind.i64 (L : Int) (maskF n p : Nat) = ((sdiff L (maskF n p) : Nat) : Int) := bandNot_nat L _ (by omega) (by omega)
                generalize maskF n p = G at *
                have HG := hide hG
                clear hG HPP
                go_wp2
                go_loopw [90] (fun k wi => ∃ j : Nat, j ≤ n ∧ k = .int .i64 j ∧ RfMem w wi n bo br (fun i => if i < j ∧ G.testBit i = true then best (W.getD i []) T else out i) (fun i => if i < j ∧ G.testBit i = true then q else rounds i) ∧
                    wi.rowIs bt 3 n (fun i => .int .i64 (nextF W has T i : Nat))) (fun k _ => n - (intOf k).toNat)
                case atStart => exact ⟨0, Nat.zero_le _, rfl, hm.congr (fun i _ => by simp) (fun i _ => by simp), hrf⟩
                case round =>
                  clear hm hrf hand
                  obtain ⟨j, hj, rfl, hm, hrf⟩ := hrel
                  by_cases hlt : j < n
                  · cases hb : G.testBit j
                    · have ht : (bits BinOp.and IntKind.i64 ((G : Int) / 2 ^ j) 1 == 1) = false := by rw [shr_test G j (by omega)]; exact hb
                      have HB := hide hb
                      clear hb
                      go_wp2
                      go_roundw
                      case rel =>
                        refine ⟨j + 1, by omega, by go_num, hm.congr (fun i _ => ?_) (fun i _ => ?_), hrf⟩
                        · by_cases e : i = j
                          · subst e; simp [HB.out]
                          · simp only [show i < j + 1 ↔ i < j from by omega]
                        · by_cases e : i = j
                          · subst e; simp [HB.out]
                          · simp only [show i < j + 1 ↔ i < j from by omega]
                      case measure => simp [intOf] <;> omega
                    · have ht : (bits BinOp.and IntKind.i64 ((G : Int) / 2 ^ j) 1 == 1) = true := by rw [shr_test G j (by omega)]; exact hb
                      have hLj : L.testBit j = true := by
                        have := gone_bit (W := W) (has := has) (n := n) (left := L) (things := T) j
                        rw [HG.out, hb] at this
                        simp only [Bool.true_eq, Bool.and_eq_true] at this
                        exact this.2.1
                      have HB := hide hb
                      obtain ⟨hn1, hn2, hn3⟩ := hM.next_left HLK.out hlt hLj
                      obtain ⟨b, o, x, rfl, hbb, hc, hx⟩ := (hH1.below hm.bel).at_ (k := nextF W has T j) (by rw [up_length, hM.hlen]; exact hn1)
                      have hx' := hx.out
                      rw [up_getD, hn3] at hx'
                      have hcell := hrf.cell hlt
                      generalize nextF W has T j = f at *
                      obtain ⟨bs, hbs⟩ : ∃ bs, bs = best (W.getD j []) T := ⟨_, rfl⟩
                      have HBS := hide hbs
                      rw [← hbs] at hx'
                      subst hx'
                      obtain ⟨v1, o1⟩ : ∃ v, wr.cell? ⟨bo, j, none⟩ = some v := ⟨_, hm.ro.cell hlt⟩
                      have o2 := hm.ro.frozen j
                      obtain ⟨v2, o3⟩ : ∃ v', ∀ v, (wr.setCell ⟨bo, j, none⟩ v).cell? ⟨br, j, none⟩ = some v' := ⟨_, fun v => (hm.rr.setOther (a := ⟨bo, j, none⟩) (by show br ≠ bo; have := HD.out; omega) v).cell hlt⟩
                      have o4 : ∀ v, (wr.setCell ⟨bo, j, none⟩ v).frozen? ⟨br, j, none⟩ = false := fun v => (hm.rr.setOther (a := ⟨bo, j, none⟩) (by show br ≠ bo; have := HD.out; omega) v).frozen j
                      clear hb hLj hx hn2 hn3 hbs
                      go_wp2
                      go_roundw
                      case rel =>
                        refine ⟨j + 1, by omega, by go_num, (hm.setBoth HD.out j bs q).congr (fun i _ => ?_) (fun i _ => ?_), (hrf.setOther (by show bt ≠ bo; have := HBT.out; omega) _).setOther (by show bt ≠ br; have := HBT.out; omega) _⟩
                        · by_cases e : i = j
                          · subst e; simp [HB.out, HBS.out]
                          · simp only [if_neg e, show i < j + 1 ↔ i < j from by omega]
                        · by_cases e : i = j
                          · subst e; simp [HB.out]
                          · simp only [if_neg e, show i < j + 1 ↔ i < j from by omega]
                      case measure => simp [intOf] <;> omega
                  · obtain rfl : n = j := by omega
                    have hand : bits BinOp.andNot IntKind.i64 (L : Int) (G : Int) = ((sdiff L G : Nat) : Int) := bandNot_nat L _ (by omega) (by omega)
                    have hk0 : 0 < cardF n L := by have := hM.card_step HLK.out HNZ.out; omega
                    have hfu := HP.out.2.1
                    have hfp : 0 < fuel := by omega
                    clear hk0 hfu
                    go_wp2
                    go_roundw
                    case rel =>
                      refine ⟨sdiff L G, sdiff T (takenF has n G), q + 1, fuel - 1, (fun i => if G.testBit i then best (W.getD i []) T else out i), (fun i => if G.testBit i then q else rounds i), rfl, by go_num, by omega, hm.congr (fun i hi => by simp [hi]) (fun i hi => by simp [hi]), ?_, ?_, ?_⟩
                      · rw [← HG.out]; exact hM.step HLK.out
                      · have := hM.card_step HLK.out HNZ.out
                        rw [HG.out] at this
                        have := HP.out.2.1
                        omega
                      · have h1 := HP.out.2.2
                        obtain ⟨f', rfl⟩ : ∃ f', fuel = f' + 1 := ⟨fuel - 1, by omega⟩
                        simp only [ttc, HNZ.out, if_false] at h1
                        rw [← h1, HG.out]
                        rfl
                    case measure =>
                      obtain ⟨i, hi, hb, hg⟩ := hM.some_gone HLK.out HNZ.out
                      rw [HG.out] at hg
                      have := sdiff_lt_self ⟨i, hb, hg⟩
                      simp [intOf]; omega
end Go.Proofs.Ytilnbiaabhdfgaa
