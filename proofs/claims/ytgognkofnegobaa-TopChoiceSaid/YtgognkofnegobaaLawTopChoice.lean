/-
  The walk of TopChoice.
-/
import Derived.Test.YtgognkofnegobaaTurnsS
import Derived.Test.YtgognkofnegobaaTurnsP
import Derived.Test.YtgognkofnegobaaTurnsM
import Derived.Test.YtgognkofnegobaaTopW
import Derived.Test.YtgognkofnegobaaTradesTop
import Derived.Test.YtgognkofnegobaaEqual
import Derived.Deep.RegionHeld3
import Derived.Deep.Cut
namespace Go.Proofs.Ytgognkofnegobaa
open Go.RowKit
set_option linter.unusedVariables false
set_option linter.unusedSimpArgs false

theorem upp_rep (n : Nat) (o : List Nat) : upp (List.replicate n o) = List.replicate n (up o) := by simp [upp]
theorem rep_snoc {α : Type} (n : Nat) (x : α) : List.replicate n x ++ [x] = List.replicate (n + 1) x := by rw [List.replicate_succ']
theorem rep_getD {α : Type} {n i : Nat} (x d : α) (h : i < n) : (List.replicate n x).getD i d = x := by
  rw [List.getD_eq_getElem?_getD, List.getElem?_replicate, if_pos h]; rfl
/-- The plan's memory in the end. -/
theorem PlM.plan {w : World} {B n : Nat} {HA : Option Addr} {hc : Nat} {H : List (List Nat)} {X : Option Addr} {c : Nat} {PX : Option Addr} {cp : Nat} {vs ps : List Value} {S : List (List Int)} {S' : List (List Nat)}
    (h : PlM w B n HA hc H X n c PX n cp vs ps S) (hps : ps = List.replicate n (.int .i64 1)) (hS : S = upp S') (hH : SqOk H n) (hS' : SqOk S' n) : PlanA w w.heap.size HA X PX n H S' := by
  have hB := lt_of_block h.pb
  subst hS
  have e : ps = (up (List.replicate n 1)).map (Value.int .i64) := by rw [hps]; simp [up]
  exact ⟨h.h.more (by omega), rows_of h.rv h.own, ints_of_own (by rw [← e]; exact h.pown), hH, hS'⟩

set_option maxRecDepth 100000 in
set_option maxHeartbeats 3200000 in
theorem topChoice_any (A : Option Addr) (n c : Nat) (L : List (List Int)) (X : Option Addr) (m cm : Nat) (l : List Int) (w : World) (hn : L.length = n) (hlen : n ≤ 9223372036854775807) (hrow : ∀ l ∈ L, l.length ≤ 9223372036854775807) (hA : RowsA w w.heap.size A L)
    (hm : l.length = m) (hmc : m ≤ cm) (hlm : m ≤ 9223372036854775807) (hX : IntsA w w.heap.size X l) :
    Calls Try.prog 5 #[.slice A n c, .slice X m cm] w fun e w' => e = .returned (.bool true) ∧ Below w.heap.size w w' := by
  have HVA := hide (refValid_any A n c w.heap.size L w hn hlen hrow hA)
  have HOR := hide (refIsOrder_any X m cm w.heap.size n l w hm hlm hlen hX)
  have HTR := hide trades_any
  cases hv : validB L
  · rw [hv] at HVA
    clear hrow hA hX hn hm hv
    go_enter Try.func5, Try.ntmps5
    go_wp2_with (first
      | (go_at_call 13; refine (HVA.out).mono ?_; rintro e w1 ⟨rfl, rfl⟩)
      | (go_at_call 14; refine (HTR.out _).mono ?_; rintro e w1 ⟨rfl, hb1⟩))
    go_ret
    exact ⟨rfl, hb1⟩
  rw [hv] at HVA
  by_cases h4 : n ≤ 4
  case neg =>
    have hd4 : decide ((4 : Int) < (n : Int)) = true := decide_eq_true (by omega)
    clear hrow hA hX hn hm hv
    go_enter Try.func5, Try.ntmps5
    go_wp2_with (first
      | (go_at_call 13; refine (HVA.out).mono ?_; rintro e w1 ⟨rfl, rfl⟩)
      | (go_at_call 14; refine (HTR.out _).mono ?_; rintro e w1 ⟨rfl, hb1⟩))
    go_ret
    exact ⟨rfl, hb1⟩
  have hd4 : decide ((4 : Int) < (n : Int)) = false := decide_eq_false (by omega)
  cases ho : ordB l n
  · rw [ho] at HOR
    clear hrow hA hX hn hm hv ho
    go_enter Try.func5, Try.ntmps5
    go_wp2_with (first
      | (go_at_call 13; refine (HVA.out).mono ?_; rintro e w1 ⟨rfl, rfl⟩)
      | (go_at_call 21; refine (HOR.out).mono ?_; rintro e w1 ⟨rfl, rfl⟩)
      | (go_at_call 14; refine (HTR.out _).mono ?_; rintro e w1 ⟨rfl, hb1⟩))
    go_ret
    exact ⟨rfl, hb1⟩
  rw [ho] at HOR
  obtain ⟨hul, hol⟩ := ord_of ho
  obtain rfl : m = n := by rw [← hm, ← hul, up_length, hol.len]
  obtain ⟨hu, hok⟩ := valid_ok hv
  rw [hn] at hok
  have hpos : 1 ≤ m := hok.pos
  have HWI := hide (fun w' (hb : Below w.heap.size w w') => wish_any A m c w.heap.size L w' hn hlen hrow hv (hA.below hb))
  have HCL : Hid (∀ w', Below w.heap.size w w' → Calls Try.prog 22 #[.slice X m cm] w' fun e w3 => ∃ A' c', e = .returned (.slice A' m c') ∧ m ≤ c' ∧ IntsA w3 w3.heap.size A' l ∧ Below w'.heap.size w' w3 ∧ ∀ g, (Value.slice A' m c').ownBlock = some g → w'.heap.size ≤ g) := fun w' hb => (clone_any X m cm w.heap.size l w' hm (by omega) (hX.below hb)).mono fun e w3 ⟨A', c', h1, h2, h3, _, h5, h6⟩ => ⟨A', c', h1, h2, h3, h5, h6⟩
  have HCH : Hid (∀ w' A' X' c' cm', RowsA w' w'.heap.size A' L → IntsA w' w'.heap.size X' l → Calls Try.prog 23 #[.slice A' m c', .slice X' m cm'] w' (RowOk m (chooseN (toNN L) (toN l)) w')) := fun w' A' X' c' cm' h1 h2 => Choose_yes A' X' m c' cm' w'.heap.size w'.heap.size L l w' hn h1 h2 hv ho
  have HST : Hid (∀ w' HA' SA' PA' hc' sc' pc', PlanA w' w'.heap.size HA' SA' PA' m (toNN L) (List.replicate m (toN l)) → Calls Try.prog 17 #[.agg #[.slice HA' m hc', .slice SA' m sc', .slice PA' m pc']] w' fun e w'' => ∃ X' c', e = .returned (.tuple #[.slice X' 1 c', .int .i64 0]) ∧ RowsA w'' w''.heap.size X' [up (chooseN (toNN L) (toN l))] ∧ Below w'.heap.size w' w'') := fun w' HA' SA' PA' hc' sc' pc' hP => by
    refine (Stable_any HA' SA' PA' m hc' sc' pc' (toNN L) (List.replicate m (toN l)) w' h4 hpos hP).mono ?_
    rintro e w3 ⟨X', j, c', rfl, h1, _, h3, h5⟩
    rw [stable_choose hok hol hP.sok (fun s hs => rep_getD (toN l) [] hs)] at h1 h3
    have : j = 1 := h1.symm
    subst this
    exact ⟨X', c', rfl, h3, h5⟩
  have HPL : Hid (∀ (w' : World) (B : Nat) HA' hc' X' c' PX' cp' vs ps, PlM w' B m HA' hc' (toNN L) X' m c' PX' m cp' vs ps (List.replicate m l) → ps = List.replicate m (.int .i64 1) → PlanA w' w'.heap.size HA' X' PX' m (toNN L) (List.replicate m (toN l))) := fun w' B HA' hc' X' c' PX' cp' vs ps h hps =>
    h.plan hps (by rw [upp_rep, hul]) ⟨hok.len, hok.rows⟩ ⟨by simp, fun i hi => by rw [rep_getD (toN l) [] hi]; exact hol⟩
  have HUP := hide hu
  have HCN : Hid ((chooseN (toNN L) (toN l)).length = m) := by show _ = _; rw [chooseN, hok.len, listF, List.length_map, List.length_range]
  generalize chooseN (toNN L) (toN l) = ch at *
  generalize List.replicate m (toN l) = SS at *
  generalize toNN L = W at *
  have HLM := hide hm
  clear hrow hA hX hn hm hv ho hul hol hu hok
  go_enter Try.func5, Try.ntmps5
  go_upto_region 3 with (first
      | (go_at_call 13; refine (HVA.out).mono ?_; rintro e w1 ⟨rfl, rfl⟩)
      | (go_at_call 21; refine (HOR.out).mono ?_; rintro e w1 ⟨rfl, rfl⟩))
  clear HVA HOR
  go_wp2_with fail
  refine (HWI.out _ (Below.refl _ _)).mono ?_
  rintro e w1 ⟨A1, c1, rfl, hc1, hR1, hb1⟩
  have HB1 := hide hb1
  have HR1 := hide hR1
  clear hb1 hR1
  go_upto_region 4 with (fail)
  have HPM0 : Hid (PlM (w1.alloc (.cells #[.slice A1 m c1, .slice none 0 0, .slice none 0 0] 33)) w1.heap.size m A1 c1 W none 0 0 none 0 0 [] [] []) :=
    ⟨alloc_new _ _ _ rfl, (by rw [HUP.out]; exact HR1.out.below ((Below.refl _ _).alloc (Nat.le_refl _) _)), World.ownsRow_nil _ _ _ _, World.ownsRow_nil _ _ _ _, fun k hk => by simp [Value.ownBlock] at hk, RowVals.nil_, RowVals.nil_, rfl, Nat.le_refl _, Nat.le_refl _⟩
  have HB2 : Hid (Below w.heap.size w (w1.alloc (.cells #[.slice A1 m c1, .slice none 0 0, .slice none 0 0] 33))) := HB1.out.alloc HB1.out.size _
  have hwl : w.heap.size ≤ w1.heap.size := HB1.out.size
  generalize hw2 : w1.alloc (.cells #[.slice A1 m c1, .slice none 0 0, .slice none 0 0] 33) = w2 at *
  generalize hB : w1.heap.size = B at *
  clear hw2 HB1 HR1 hB
  go_wp2
  go_loopw [31] (fun i wr => ∃ (k : Nat) (X1 : Option Addr) (cx : Nat) (P1 : Option Addr) (cp : Nat) (vs ps : List Value), k ≤ m ∧ i = .int .i64 (k : Nat) ∧ Hid (PlM wr B m A1 c1 W X1 k cx P1 k cp vs ps (List.replicate k l)) ∧ Hid (ps = List.replicate k (.int .i64 1)) ∧ Hid (Below w.heap.size w wr)) (fun i _ => m - (intOf i).toNat)
  case atStart => exact ⟨0, none, 0, none, 0, [], [], Nat.zero_le _, rfl, HPM0, hide rfl, HB2⟩
  case round =>
    obtain ⟨k, X1, cx, P1, cp, vs, ps, hk, rfl, HPM, HPS, HBR⟩ := hrel
    clear HPM0 HB2
    by_cases hlt : k < m
    · have hlk : (k : Int) < (m : Int) := by omega
      have HO3 : Hid (∀ w', Below wr.heap.size wr w' → w'.cell? ⟨B, 1, none⟩ = some (.slice X1 k cx)) := fun w' hb => by
        have := blk_cell (HPM.out.next hb).pb 1
        simpa using this
      go_upto_region 6 with (fail)
      go_cut [31] from 31 to 45 (fun u31 wx => u31 = .int .i64 (k : Nat) ∧ ∃ X2 cx2 vs2, Hid (PlM wx B m A1 c1 W X2 (k + 1) cx2 P1 k cp vs2 ps (List.replicate (k + 1) l)) ∧ Hid (Below w.heap.size w wx))
      case first =>
        refine wp_region_noPanic ?_
        refine wp_region_held_drew (S := (fun _ => True)) (by kernel_rfl) trivial (fun hHeld => ?_)
        show wpAnyH _ _ _ _ _ _ (#[false, false, false, false, false, false, false, false] : Array Bool) _ _
        refine wpAnyH_take (i := 0) (v := .pointer (some ⟨B, 1, none⟩)) rfl (by kernel_rfl) (by kernel_rfl) (by kernel_rfl) (fun _ _ _ h => h) (Or.inl ⟨by rfl, ?_⟩) hHeld ?_
        · (intro w' hSw; go_simp)
        try simp only [Act.put, List.setIfInBounds_toArray, List.set_cons_zero, List.set_cons_succ]
        refine wpAnyH_take (i := 2) (v := .slice X m cm) rfl (by kernel_rfl) (by kernel_rfl) (by kernel_rfl) (fun _ _ _ h => h) (Or.inl ⟨by rfl, ?_⟩) hHeld ?_
        · (intro w' hSw; go_simp)
        try simp only [Act.put, List.setIfInBounds_toArray, List.set_cons_zero, List.set_cons_succ]
        have hBd : Below wr.heap.size wr wr.drew := (Below.refl _ wr).drew
        refine wpAnyH_ready (rs := [1, 3]) (by kernel_rfl) (by simp) ?_
        refine (AllReadyH.cons rfl (fun K hK => ?_) (AllReadyH.cons rfl (fun K hK => ?_) AllReadyH.nil))
        · clear hHeld
          have o3 := HO3.out _ hBd
          go_simp
          clear o3
          refine hK.out _ _ trivial (fun hHeld => ?_)
          clear hK K
          try simp only [Act.put, List.setIfInBounds_toArray, List.set_cons_zero, List.set_cons_succ]
          refine wpAnyH_ready (rs := [3]) (by kernel_rfl) (by simp) ?_
          refine (AllReadyH.cons rfl (fun K hK => ?_) AllReadyH.nil)
          clear hHeld
          go_simp
          refine (HCL.out _ (HBR.out.trans (hBd.mono HBR.out.size))).mono ?_
          rintro e w5 ⟨A5, c5, rfl, hc5, hI5, hb5, hl5⟩
          have HB5 := hide (hBd.trans (hb5.mono (hBd.size)))
          have HI5 := hide hI5
          have HL5 : Hid (∀ g, (Value.slice A5 m c5).ownBlock = some g → wr.heap.size ≤ g) := fun g hg => Nat.le_trans (hBd.size) (hl5 g hg)
          clear hI5 hb5 hl5
          try go_wp2_with fail
          refine hK.out _ _ trivial (fun hHeld => ?_)
          clear hK K
          try simp only [Act.put, List.setIfInBounds_toArray, List.set_cons_zero, List.set_cons_succ]
          refine wpAnyH_ready (rs := [4]) (by kernel_rfl) (by simp) ?_
          refine (AllReadyH.cons rfl (fun K hK => ?_) AllReadyH.nil)
          clear hHeld
          go_simp
          refine hK.out _ _ trivial (fun hHeld => ?_)
          clear hK K
          try simp only [Act.put, List.setIfInBounds_toArray, List.set_cons_zero, List.set_cons_succ]
          refine wpAnyH_ready (rs := [5]) (by kernel_rfl) (by simp) ?_
          refine (AllReadyH.cons rfl (fun K hK => ?_) AllReadyH.nil)
          clear hHeld
          have HM5 := hide (HPM.out.next HB5.out)
          have hB5 := lt_of_block HM5.out.pb
          refine wp_app1 (w0 := w5) _ _ 22 24 (.slice none 0 0) 24 rfl Try.underlying22 info_ints rfl (B + 1) (.slice X1 k cx) k vs (.slice A5 m c5) (by simp [Act.eval]) (by simp [Act.eval]) rfl ⟨_, rfl⟩ HM5.out.own rfl (by omega) (by omega) (by omega) ?_
          intro ga cg w7 hown hd1 hd2 hg1 hgl hgrow
          have HMF := hide (HM5.out.pushS HLM.out hc5 HI5.out (fun k1 hk1 e1 => by have h1 := HL5.out k1 hk1; have h2 := (own_lt HPM.out.own k1 e1).2; omega) (fun k1 hk1 e1 => by have h1 := HL5.out k1 hk1; have h2 := (own_lt HPM.out.pown k1 e1).2; omega) hown hd1 hg1 hgrow)
          have h71 : w7.heap[B]? = some (.cells #[.slice A1 m c1, .slice X1 k cx, .slice P1 k cp] 33 (0, 0)) := (hgrow.block _ hB5 (fun e => by have := (own_lt HM5.out.own _ e.symm).1; omega)).trans HM5.out.pb
          have c71 := blk_cell h71 1
          have f71 := blk_free h71 1
          simp only [List.getElem?_toArray, List.getElem?_cons_zero, List.getElem?_cons_succ] at c71
          have HBF : Hid (Below w.heap.size w (w7.setCell ⟨B, 1, none⟩ (.slice (some ⟨ga, 0, none⟩) (k + 1) cg))) := (((HBR.out.trans (HB5.out.mono HBR.out.size)).grown hgrow (by have := HB5.out.size; have := HBR.out.size; omega) (fun k hk => by have := (own_lt HM5.out.own k hk).1; omega)).setCell (by show w.heap.size ≤ B; omega) _)
          clear hown hgrow hg1 h71
          refine hK.out _ _ trivial (fun hHeld => ?_)
          clear hK K
          try simp only [Act.put, List.setIfInBounds_toArray, List.set_cons_zero, List.set_cons_succ]
          refine wpAnyH_ready (rs := [6]) (by kernel_rfl) (by simp) ?_
          refine (AllReadyH.cons rfl (fun K hK => ?_) AllReadyH.nil)
          clear hHeld
          go_simp
          refine hK.out _ _ trivial (fun hHeld => ?_)
          clear hK K
          try simp only [Act.put, List.setIfInBounds_toArray, List.set_cons_zero, List.set_cons_succ]
          refine wpAnyH_ready (rs := [7]) (by kernel_rfl) (by simp) ?_
          refine (AllReadyH.cons rfl (fun K hK => ?_) AllReadyH.nil)
          clear hHeld
          go_simp
          refine hK.out _ _ trivial (fun hHeld => ?_)
          clear hK K
          try simp only [Act.put, List.setIfInBounds_toArray, List.set_cons_zero, List.set_cons_succ]
          refine wpAnyH_done (by kernel_rfl) ?_ _
          refine NoPanic.normal ?_
          go_wp2_with fail
          go_meet
          exact ⟨rfl, _, _, _, hide (by have := HMF.out; rw [rep_snoc] at this; exact this), HBF⟩
        · clear hHeld
          go_simp
          refine (HCL.out _ (HBR.out.trans (hBd.mono HBR.out.size))).mono ?_
          rintro e w5 ⟨A5, c5, rfl, hc5, hI5, hb5, hl5⟩
          have HB5 := hide (hBd.trans (hb5.mono (hBd.size)))
          have HI5 := hide hI5
          have HL5 : Hid (∀ g, (Value.slice A5 m c5).ownBlock = some g → wr.heap.size ≤ g) := fun g hg => Nat.le_trans (hBd.size) (hl5 g hg)
          clear hI5 hb5 hl5
          try go_wp2_with fail
          refine hK.out _ _ trivial (fun hHeld => ?_)
          clear hK K
          try simp only [Act.put, List.setIfInBounds_toArray, List.set_cons_zero, List.set_cons_succ]
          refine wpAnyH_ready (rs := [1, 4]) (by kernel_rfl) (by simp) ?_
          refine (AllReadyH.cons rfl (fun K hK => ?_) (AllReadyH.cons rfl (fun K hK => ?_) AllReadyH.nil))
          · clear hHeld
            have o3 := HO3.out _ HB5.out
            go_simp
            clear o3
            refine hK.out _ _ trivial (fun hHeld => ?_)
            clear hK K
            try simp only [Act.put, List.setIfInBounds_toArray, List.set_cons_zero, List.set_cons_succ]
            refine wpAnyH_ready (rs := [4]) (by kernel_rfl) (by simp) ?_
            refine (AllReadyH.cons rfl (fun K hK => ?_) AllReadyH.nil)
            clear hHeld
            go_simp
            refine hK.out _ _ trivial (fun hHeld => ?_)
            clear hK K
            try simp only [Act.put, List.setIfInBounds_toArray, List.set_cons_zero, List.set_cons_succ]
            refine wpAnyH_ready (rs := [5]) (by kernel_rfl) (by simp) ?_
            refine (AllReadyH.cons rfl (fun K hK => ?_) AllReadyH.nil)
            clear hHeld
            have HM5 := hide (HPM.out.next HB5.out)
            have hB5 := lt_of_block HM5.out.pb
            refine wp_app1 (w0 := w5) _ _ 22 24 (.slice none 0 0) 24 rfl Try.underlying22 info_ints rfl (B + 1) (.slice X1 k cx) k vs (.slice A5 m c5) (by simp [Act.eval]) (by simp [Act.eval]) rfl ⟨_, rfl⟩ HM5.out.own rfl (by omega) (by omega) (by omega) ?_
            intro ga cg w7 hown hd1 hd2 hg1 hgl hgrow
            have HMF := hide (HM5.out.pushS HLM.out hc5 HI5.out (fun k1 hk1 e1 => by have h1 := HL5.out k1 hk1; have h2 := (own_lt HPM.out.own k1 e1).2; omega) (fun k1 hk1 e1 => by have h1 := HL5.out k1 hk1; have h2 := (own_lt HPM.out.pown k1 e1).2; omega) hown hd1 hg1 hgrow)
            have h71 : w7.heap[B]? = some (.cells #[.slice A1 m c1, .slice X1 k cx, .slice P1 k cp] 33 (0, 0)) := (hgrow.block _ hB5 (fun e => by have := (own_lt HM5.out.own _ e.symm).1; omega)).trans HM5.out.pb
            have c71 := blk_cell h71 1
            have f71 := blk_free h71 1
            simp only [List.getElem?_toArray, List.getElem?_cons_zero, List.getElem?_cons_succ] at c71
            have HBF : Hid (Below w.heap.size w (w7.setCell ⟨B, 1, none⟩ (.slice (some ⟨ga, 0, none⟩) (k + 1) cg))) := (((HBR.out.trans (HB5.out.mono HBR.out.size)).grown hgrow (by have := HB5.out.size; have := HBR.out.size; omega) (fun k hk => by have := (own_lt HM5.out.own k hk).1; omega)).setCell (by show w.heap.size ≤ B; omega) _)
            clear hown hgrow hg1 h71
            refine hK.out _ _ trivial (fun hHeld => ?_)
            clear hK K
            try simp only [Act.put, List.setIfInBounds_toArray, List.set_cons_zero, List.set_cons_succ]
            refine wpAnyH_ready (rs := [6]) (by kernel_rfl) (by simp) ?_
            refine (AllReadyH.cons rfl (fun K hK => ?_) AllReadyH.nil)
            clear hHeld
            go_simp
            refine hK.out _ _ trivial (fun hHeld => ?_)
            clear hK K
            try simp only [Act.put, List.setIfInBounds_toArray, List.set_cons_zero, List.set_cons_succ]
            refine wpAnyH_ready (rs := [7]) (by kernel_rfl) (by simp) ?_
            refine (AllReadyH.cons rfl (fun K hK => ?_) AllReadyH.nil)
            clear hHeld
            go_simp
            refine hK.out _ _ trivial (fun hHeld => ?_)
            clear hK K
            try simp only [Act.put, List.setIfInBounds_toArray, List.set_cons_zero, List.set_cons_succ]
            refine wpAnyH_done (by kernel_rfl) ?_ _
            refine NoPanic.normal ?_
            go_wp2_with fail
            go_meet
            exact ⟨rfl, _, _, _, hide (by have := HMF.out; rw [rep_snoc] at this; exact this), HBF⟩
          · clear hHeld
            go_simp
            refine hK.out _ _ trivial (fun hHeld => ?_)
            clear hK K
            try simp only [Act.put, List.setIfInBounds_toArray, List.set_cons_zero, List.set_cons_succ]
            refine wpAnyH_ready (rs := [1]) (by kernel_rfl) (by simp) ?_
            refine (AllReadyH.cons rfl (fun K hK => ?_) AllReadyH.nil)
            clear hHeld
            have o3 := HO3.out _ (HB5.out.alloc HB5.out.size (.cells #[.slice A5 m c5] 24))
            go_simp
            clear o3
            refine hK.out _ _ trivial (fun hHeld => ?_)
            clear hK K
            try simp only [Act.put, List.setIfInBounds_toArray, List.set_cons_zero, List.set_cons_succ]
            refine wpAnyH_ready (rs := [5]) (by kernel_rfl) (by simp) ?_
            refine (AllReadyH.cons rfl (fun K hK => ?_) AllReadyH.nil)
            clear hHeld
            have HM5 := hide (HPM.out.next HB5.out)
            have hB5 := lt_of_block HM5.out.pb
            refine wp_app1 (w0 := w5) _ _ 22 24 (.slice none 0 0) 24 rfl Try.underlying22 info_ints rfl (B + 1) (.slice X1 k cx) k vs (.slice A5 m c5) (by simp [Act.eval]) (by simp [Act.eval]) rfl ⟨_, rfl⟩ HM5.out.own rfl (by omega) (by omega) (by omega) ?_
            intro ga cg w7 hown hd1 hd2 hg1 hgl hgrow
            have HMF := hide (HM5.out.pushS HLM.out hc5 HI5.out (fun k1 hk1 e1 => by have h1 := HL5.out k1 hk1; have h2 := (own_lt HPM.out.own k1 e1).2; omega) (fun k1 hk1 e1 => by have h1 := HL5.out k1 hk1; have h2 := (own_lt HPM.out.pown k1 e1).2; omega) hown hd1 hg1 hgrow)
            have h71 : w7.heap[B]? = some (.cells #[.slice A1 m c1, .slice X1 k cx, .slice P1 k cp] 33 (0, 0)) := (hgrow.block _ hB5 (fun e => by have := (own_lt HM5.out.own _ e.symm).1; omega)).trans HM5.out.pb
            have c71 := blk_cell h71 1
            have f71 := blk_free h71 1
            simp only [List.getElem?_toArray, List.getElem?_cons_zero, List.getElem?_cons_succ] at c71
            have HBF : Hid (Below w.heap.size w (w7.setCell ⟨B, 1, none⟩ (.slice (some ⟨ga, 0, none⟩) (k + 1) cg))) := (((HBR.out.trans (HB5.out.mono HBR.out.size)).grown hgrow (by have := HB5.out.size; have := HBR.out.size; omega) (fun k hk => by have := (own_lt HM5.out.own k hk).1; omega)).setCell (by show w.heap.size ≤ B; omega) _)
            clear hown hgrow hg1 h71
            refine hK.out _ _ trivial (fun hHeld => ?_)
            clear hK K
            try simp only [Act.put, List.setIfInBounds_toArray, List.set_cons_zero, List.set_cons_succ]
            refine wpAnyH_ready (rs := [6]) (by kernel_rfl) (by simp) ?_
            refine (AllReadyH.cons rfl (fun K hK => ?_) AllReadyH.nil)
            clear hHeld
            go_simp
            refine hK.out _ _ trivial (fun hHeld => ?_)
            clear hK K
            try simp only [Act.put, List.setIfInBounds_toArray, List.set_cons_zero, List.set_cons_succ]
            refine wpAnyH_ready (rs := [7]) (by kernel_rfl) (by simp) ?_
            refine (AllReadyH.cons rfl (fun K hK => ?_) AllReadyH.nil)
            clear hHeld
            go_simp
            refine hK.out _ _ trivial (fun hHeld => ?_)
            clear hK K
            try simp only [Act.put, List.setIfInBounds_toArray, List.set_cons_zero, List.set_cons_succ]
            refine wpAnyH_done (by kernel_rfl) ?_ _
            refine NoPanic.normal ?_
            go_wp2_with fail
            go_meet
            exact ⟨rfl, _, _, _, hide (by have := HMF.out; rw [rep_snoc] at this; exact this), HBF⟩
      case rest =>
        obtain ⟨rfl, X2, cx2, vs2, HPM2, HBR2⟩ := hcut
        clear HPM HBR HO3
        have hM := HPM2.out
        have p2 := blk_cell hM.pb 2
        have f2 := blk_free hM.pb 2
        have hPO := hide hM.pown
        have hBl := lt_of_block hM.pb
        simp only [List.getElem?_toArray, List.getElem?_cons_zero, List.getElem?_cons_succ] at p2
        clear hM
        go_wp2_with ((at_builtin; refine wpList_app1 (w0 := wc) _ _ 24 3 (.int .i64 0) 8 rfl rfl Try.underlying24 info_int rfl (B + 1) (.slice P1 k cp) k ps (.int .i64 1) rfl rfl rfl ⟨_, rfl⟩ hPO.out rfl (by omega) (by omega) (by omega) ?_; intro g cg w3 hown hd1 hd2 hg1 hgl hgrow; have HMF := hide (HPM2.out.pushP hown hd1 hg1 hgrow); have c3 : w3.cell? ⟨B, 2, none⟩ = some (.slice P1 k cp) := (by rw [World.cell?_of_block (w := wc) (a := ⟨B, 2, none⟩) (hgrow.block B hBl (fun e => by have := (own_lt hPO.out _ e.symm).1; omega))]; exact p2); have f3 : w3.frozen? ⟨B, 2, none⟩ = false := (blk_free (((hgrow.block B hBl (fun e => by have := (own_lt hPO.out _ e.symm).1; omega))).trans HPM2.out.pb) 2); have HB3 := hide (((HBR2.out).grown hgrow (by have := HBR2.out.size; omega) (fun q hq => by have := (own_lt hPO.out q hq).1; omega)).setCell (p := ⟨B, 2, none⟩) (by show w.heap.size ≤ B; omega) (.slice (some ⟨g, 0, none⟩) (k + 1) cg)); clear hown hgrow hg1 p2 f2))
        go_roundw
        case rel => exact ⟨k + 1, X2, cx2, some ⟨g, 0, none⟩, cg, vs2, _, by omega, by go_num, HMF, hide (by rw [HPS.out, rep_snoc]), HB3⟩
        case measure => simp [intOf]; omega
    · obtain rfl : m = k := by omega
      have q0 := blk_cell HPM.out.pb 0
      have q1 := blk_cell HPM.out.pb 1
      have q2 := blk_cell HPM.out.pb 2
      simp only [List.getElem?_toArray, List.getElem?_cons_zero, List.getElem?_cons_succ] at q0 q1 q2
      have hBl := lt_of_block HPM.out.pb
      have HPA := hide (HPL.out _ _ _ _ _ _ _ _ _ _ HPM.out HPS.out)
      go_wp2_with fail
      refine (HST.out _ _ _ _ _ _ _ HPA.out).mono ?_
      rintro e w3 ⟨Y, cy, rfl, hY, hb3⟩
      have HB3 := hide (HBR.out.trans (hb3.mono HBR.out.size))
      have hY' := hY
      clear hb3 q0 q1 q2 HPM HPA HBR hY
      go_wp2_with fail
      refine (HWI.out _ HB3.out).mono ?_
      rintro e w4 ⟨A4, c4, rfl, hc4, hR4, hb4⟩
      have hY4 := hY'.next hb4
      have HB4 := hide (HB3.out.trans (hb4.mono HB3.out.size))
      clear hb4 hY' HB3
      go_wp2_with fail
      refine (HCL.out _ HB4.out).mono ?_
      rintro e w5 ⟨A5, c5, rfl, hc5, hI5, hb5, hl5⟩
      have hY5 := hY4.next hb5
      have hR5 := hR4.next hb5
      have HB5 := hide (HB4.out.trans (hb5.mono HB4.out.size))
      clear hb5 hY4 hR4 hl5 HB4
      go_wp2_with fail
      refine (HCH.out _ _ _ _ _ hR5 hI5).mono ?_
      rintro e w6 ⟨O6, c6, rfl, hI6, hb6⟩
      have hY6 := hY5.next hb6
      have HB6 := hide (HB5.out.trans (hb6.mono HB5.out.size))
      clear hb6 hY5 hR5 hI5 HB5
      obtain ⟨b, o, A', n', c', rfl, hbb, hcc, hxx, hle, hI⟩ := hY6.at_ (k := 0) (by simp)
      obtain rfl : n' = m := by have := hxx.out; rw [← this]; show (up ch).length = m; rw [up_length, HCN.out]
      rw [Nat.add_zero] at hcc
      have HEQ := hide (equal_any A' O6 n' n' c' c6 w6.heap.size w6.heap.size (up ch) (up ch) w6 (by rw [up_length, HCN.out]) (by rw [up_length, HCN.out]) (by omega) hI hI6)
      rw [decide_eq_true rfl] at HEQ
      have h01 : (0 : Int) < 1 := by decide
      clear hxx hI hI6 hY6 hle
      go_wp2_with fail
      refine (HEQ.out).mono ?_
      rintro e w7 ⟨rfl, d7, rfl⟩
      have HB7 := hide (below_drewN HB6.out d7)
      clear HEQ
      go_wp2_with fail
      refine (HTR.out _).mono ?_
      rintro e w8 ⟨rfl, hb8⟩
      have HB8 := hide (HB7.out.trans (hb8.mono HB7.out.size))
      clear hb8
      go_wp2
      go_ret
      exact ⟨rfl, HB8.out⟩
end Go.Proofs.Ytgognkofnegobaa
