/-
  DatesOrders, part 3 of 4: the texts RefPlanS, DRefs, DPrs, DBef, DLeastQ, DOnTQ, DOrdersP, DOf, Index, DOrdCl, SortDO, DOSub, DOSrt, Callg, DMapP, DWorst, DLeast, DLeastY, DEq, DAwake, DRefValid, joined.
-/
import Derived.Test.YtiadineakhcclaaMrgDatesOrders2
import Derived.Test.YtiadineakhcclaaProg
import Derived.RegionTactic
import Derived.ChangeAlike
import Derived.Maps.OwnSet
import Derived.Maps.OwnOps
import Derived.Maps.AppendAt

/-
  The reference's plan, by rule 1.
-/
namespace Go.Proofs.Ytiadineakhcclaa
open Go.RowKit
set_option linter.unusedVariables false
set_option linter.unusedSimpArgs false

set_option maxRecDepth 100000 in
set_option maxHeartbeats 3200000 in
theorem refplanS_any (A : Option Addr) (n c : Nat) (L : List J4) (w : World) (hn : L.length = n) (hL : JobsOk L) (hA : JobsA w w.heap.size A L) :
    Calls Try.prog 57 #[.slice A n c, .int .i64 1] w fun e w' => ∃ X m c', e = .returned (.slice X m c') ∧ (planN true L).length = m ∧ m ≤ c' ∧ PcsA w' w'.heap.size X (planN true L) ∧ Below w.heap.size w w' := by
  have info_rpiece : (Try.prog.info? 36).map (fun i => (i.zero, i.size, i.bytes)) = some (some (.agg #[.int .i64 0, .int .i64 0, .int .i64 0]), 3, 24) := by kernel_rfl
  have h8 : n ≤ 8 := by rw [← hn]; exact hL.le
  have h1 : 1 ≤ n := by rw [← hn]; exact hL.pos
  have HN := hide hn
  have HL := hide hL
  have HA := hide hA
  have HTB := hide (fun i (hi : i < n) => (hL.at_ i (by rw [hn]; exact hi)))
  have HTL0 : Hid ((timesOf L).length = n) := by rw [timesOf, List.length_map]; exact hn
  clear hn hL hA
  go_enter Try.func57, Try.ntmps57
  go_wp2
  go_loopw [6, 7, 17] (fun v6 v7 v wr => ∃ (k : Nat) (X : Option Addr) (c' : Nat) (z : Int), k ≤ n ∧ v = .int .i64 k ∧ v6 = .slice X k c' ∧ k ≤ c' ∧ v7 = .int .i64 z ∧ 0 ≤ z ∧ z ≤ 20 * k ∧ Hid (z = sumT (timesOf L) k) ∧ Hid (wr.ownsRow w.heap.size 3 1 (.slice X k c') k (((timesOf L).take k).map (Value.int .i64))) ∧ Below w.heap.size w wr) (fun _ _ v _ => n - (intOf v).toNat)
  case atStart => exact ⟨0, none, 0, 0, Nat.zero_le _, rfl, rfl, Nat.le_refl _, rfl, by omega, by omega, hide rfl, hide (World.ownsRow_nil _ _ _ _), Below.refl _ _⟩
  case round =>
    obtain ⟨k, X, cl, z, hk, rfl, rfl, hkc, rfl, hz0, hz1, HZ, HO, hb⟩ := hrel
    have HB := hide hb
    by_cases hlt : k < n
    · obtain ⟨bj, oj, t, r, d, u, rfl, hbj, hc0, hc1, hc2, hc3, hx⟩ := (HA.out.below hb).at_ (k := k) (by rw [HN.out]; exact hlt)
      have hkn : (k : Int) < (n : Int) := by omega
      have htb := HTB.out k hlt
      rw [hx.out] at htb
      simp only [] at htb
      obtain ⟨ht0, ht1, _⟩ := htb
      have HT : Hid ((timesOf L).getD k 0 = t) := by rw [timesOf_getD, hx.out]; exact hide rfl
      have HTK : Hid ((timesOf L).take (k + 1) = (timesOf L).take k ++ [t]) := by
        rw [take_snoc_int _ _ (by rw [HTL0.out]; exact hlt), HT.out]; exact hide rfl
      have HBA : Hid (∀ o, Below w.heap.size w (wr.alloc o)) := fun o => HB.out.alloc HB.out.size _
      have HJC : Hid (∀ w3 : World, (wr.alloc (.cells #[.int .i64 t, .int .i64 r, .int .i64 d, .int .i64 u] 43)).grownBy w3 (Value.slice X k cl).ownBlock → w3.cell? ⟨wr.heap.size, 0, none⟩ = some (.int .i64 t)) := fun w3 hg =>
        hg.cell (a := ⟨wr.heap.size, 0, none⟩) (by rw [World.cell?_alloc_at _ _ _ _ rfl]; rfl) (fun e => by have := (own_ltS HO.out _ e.symm).2; exact absurd this (Nat.lt_irrefl _))
      clear hx hb
      go_wp2_with (at_builtin; refine wpList_app1 (w0 := wr.alloc (.cells #[.int .i64 t, .int .i64 r, .int .i64 d, .int .i64 u] 43)) _ _ 41 3 (.int .i64 0) 8 rfl rfl Try.underlying41 info_int rfl w.heap.size (.slice X k cl) k _ (.int .i64 t) rfl (by simp [Act.eval]) rfl ⟨_, rfl⟩ (HO.out.alloc _) rfl (by omega) (by omega) (HBA.out _).size ?_; intro g2 cg w3 hown1 hd1 hd2 hg1 hgl2 hgrow; have HOW1 := hide hown1; have HG := hide hgrow; have hjc := HJC.out _ hgrow; clear hown1 hgrow)
      go_roundw
      case rel =>
        refine ⟨k + 1, some ⟨g2, 0, none⟩, cg, _, by omega, by go_num, rfl, hd1, rfl, by omega, by omega, hide ?_, ?_, (HBA.out _).grown HG.out (HBA.out _).size (fun q hq => (own_ltS HO.out q hq).1)⟩
        · rw [sumT, HT.out, ← HZ.out]
        · rw [HTK.out]
          exact hide (by rw [List.map_append]; exact HOW1.out)
      case measure => simp [intOf] <;> omega
    · obtain rfl : n = k := by omega
      obtain ⟨wq, rfl⟩ : ∃ wq : World, wq = wr := ⟨_, rfl⟩
      obtain ⟨gl, cc, hX, hgl0, hcc, hcm, hglq⟩ := own_formS HO.out (by omega)
      injection hX with hX1 _ hX2
      subst hX1; subst hX2
      have HTK : Hid ((timesOf L).take n = (runP true L 0).1) := List.take_of_length_le (by rw [HTL0.out]; exact Nat.le_refl _)
      rw [HTK.out] at HO
      have HZ0 : Hid (z = sumT (runP true L 0).1 n) := HZ.out
      clear hb HZ HTK
      go_wp2
      go_loopw [5, 7, 10] (fun v5 v7 v10 w2 => ∃ (k : Nat) (X : Option Addr) (m c' : Nat) (y : Int), k ≤ 300 ∧ v10 = .int .i64 k ∧ v5 = .slice X m c' ∧ m ≤ c' ∧ v7 = .int .i64 y ∧ Hid (y = sumT (runP true L k).1 n) ∧ Hid ((runP true L k).2.length = m) ∧ Hid (w2.ownsRow w.heap.size 3 1 (.slice (some ⟨gl, 0, none⟩) n cl) n ((runP true L k).1.map (Value.int .i64))) ∧
          Hid (w2.ownsRow wq.heap.size 36 3 (.slice X m c') m (pcells (runP true L k).2)) ∧ Below w.heap.size w w2 ∧ Hid (wq.heap.size ≤ w2.heap.size)) (fun _ _ v10 _ => 300 - (intOf v10).toNat)
      case atStart => exact ⟨0, none, 0, 0, z, by omega, rfl, rfl, Nat.le_refl _, rfl, HZ0, hide rfl, HO, hide (World.ownsRow_nil _ _ _ _), HB.out, hide (Nat.le_refl _)⟩
      case round =>
        obtain ⟨k, X, m, c', y, hk, rfl, rfl, hmc, rfl, HSY, HM, HT, HO2, hb2, HWQ⟩ := hrel
        obtain ⟨w2, rfl⟩ : ∃ w2 : World, w2 = wr := ⟨_, rfl⟩
        have HB2 := hide hb2
        have HOK := hide (runP_ok true HL.out k)
        have HZE := hide (fun h => runP_end (sh := true) (k := k) HL.out h)
        have HZ3 := hide (fun h => runP_300 (sh := true) (k := k) HL.out h)
        obtain ⟨s, hs⟩ : ∃ s, runP true L k = s := ⟨_, rfl⟩
        have HSN : Hid (runP true L (k + 1) = stepP true L k s) := by rw [← hs]; rfl
        rw [hs] at HM HT HO2 HOK HZE HZ3 HSY
        clear hs
        obtain ⟨t, out⟩ := s
        have HTL : Hid (t.length = n) := by rw [← HN.out]; exact HOK.out.len
        have HTB2 : Hid (∀ i, i < n → 0 ≤ t.getD i 0 ∧ t.getD i 0 ≤ 20) := fun i hi => by
          have h1 := HOK.out.bd i (by rw [HN.out]; exact hi)
          have h2 := HTB.out i hi
          simp only [] at h1
          omega
        have HIT : Hid (IntsA w2 w2.heap.size (some ⟨gl, 0, none⟩) t) := ints_of_own HT.out
        have hyb : 0 ≤ y ∧ y ≤ 160 := by
          have e := HSY.out
          simp only [] at e
          have h1 := sumT_nonneg (t := t) (n := n) (fun i hi => (HTB2.out i hi).1) n (Nat.le_refl _)
          have h2 := sumT_le (t := t) (n := n) (m := 20) (fun i hi => (HTB2.out i hi).2) n (Nat.le_refl _)
          omega
        obtain ⟨hy0, hy1⟩ := hyb
        have HSZ := hide (sumT_z HTL.out (fun i hi => (HTB2.out i hi).1))
        clear hb2
        by_cases hz : AllZ t
        · have hd : decide (0 < y) = false := decide_eq_false (fun h => by have e := HSY.out; simp only [] at e; have := HSZ.out.2 hz; omega)
          have HE : Hid (out = planN true L) := HZE.out hz
          have HPO := hide (pcs_of_own HO2.out)
          clear hz
          go_wp2
          go_ret
          exact ⟨X, m, c', rfl, by rw [← HE.out]; exact HM.out, hmc, by rw [← HE.out]; exact HPO.out, HB2.out⟩
        · have hyp : 0 < y := Classical.byContradiction fun h => hz (HSZ.out.1 (by have e := HSY.out; simp only [] at e; omega))
          have hd : decide (0 < y) = true := decide_eq_true hyp
          have hk3 : k < 300 := Nat.lt_of_not_le fun h => hz (HZ3.out h)
          clear hz
          go_wp2
          go_loopw [11, 37] (fun v10 v37 w3 => ∃ (i : Nat) (z : Int), i ≤ n ∧ v37 = .int .i64 i ∧ v10 = .int .i64 z ∧ -1 ≤ z ∧ z < i ∧ Hid (z = pkTo true L t k i) ∧ Below w2.heap.size w2 w3) (fun _ v37 _ => n - (intOf v37).toNat)
          case atStart => exact ⟨0, -1, Nat.zero_le _, rfl, rfl, by omega, by omega, hide rfl, Below.refl _ _⟩
          case round =>
            obtain ⟨i, z, hi, rfl, rfl, hz0, hz1, HZ, hb3⟩ := hrel
            obtain ⟨w3, rfl⟩ : ∃ w3 : World, w3 = wr := ⟨_, rfl⟩
            have HB3 := hide hb3
            have HW3 := hide (HB2.out.trans (hb3.mono HB2.out.size))
            by_cases hlt : i < n
            · obtain ⟨bj, oj, t', r, d, u, rfl, hbj, hc0, hc1, hc2, hc3, hx⟩ := ((HA.out.below HW3.out).more (Nat.le_trans HB2.out.size HB3.out.size)).at_ (k := i) (by rw [HN.out]; exact hlt)
              have hin : (i : Int) < (n : Int) := by omega
              obtain ⟨bt, ot, ti, e1, hbt, hci, hti⟩ := (HIT.out.next hb3).at_ (k := i) (by rw [HTL.out]; exact hlt)
              injection e1 with e1; injection e1 with e2 e3
              subst e2; subst e3
              rw [Nat.zero_add] at hci
              have htib := HTB2.out i hlt
              rw [hti.out] at htib
              obtain ⟨htib0, htib1⟩ := htib
              have HX := hide hx.out
              have HTI := hide hti.out
              clear hx hti hb3
              have HBW : Hid (∀ o, Below w2.heap.size w2 (w3.alloc o)) := fun o => HB3.out.alloc HB3.out.size _
              have HBWD : Hid (∀ o q, Below w2.heap.size w2 ((w3.alloc o).drewN q)) := fun o q => below_drewN (HBW.out o) q
              by_cases hr : r ≤ (k : Int)
              · by_cases ht0 : 0 < ti
                · have d1 : decide ((k : Int) < r) = false := decide_eq_false (by omega)
                  have d2 : (ti == 0) = false := by simp; omega
                  by_cases hz : z < 0
                  · have d3 : decide (z < 0) = true := decide_eq_true hz
                    have HNX : Hid ((i : Int) = pkTo true L t k (i + 1)) := by rw [pkTo, if_pos ⟨by rw [HX.out]; exact hr, by rw [HTI.out]; exact ht0, .inl (by rw [← HZ.out]; exact hz)⟩]; exact hide rfl
                    go_wp2
                    go_quiet (fail)
                    go_wp2
                    go_roundw
                    case rel => exact ⟨i + 1, (i : Int), by omega, by go_num, rfl, by omega, by omega, HNX, HBWD.out _ _⟩
                    case measure => simp [intOf] <;> omega
                  · have d3 : decide (z < 0) = false := decide_eq_false hz
                    obtain ⟨g, rfl⟩ : ∃ g : Nat, z = g := ⟨z.toNat, by omega⟩
                    have hgi : (g : Int) < (n : Int) := by omega
                    obtain ⟨bj2, oj2, t2, r2, dg, u2, e1, hbj2, hg0, hg1, hg2, hg3, hxg⟩ := ((HA.out.below HW3.out).more (Nat.le_trans HB2.out.size HB3.out.size)).at_ (k := g) (by rw [HN.out]; omega)
                    injection e1 with e1; injection e1 with e2 e3
                    subst e2; subst e3
                    obtain ⟨bt, ot, tg, e1, hbt2, hcg, htg⟩ := (HIT.out.next HB3.out).at_ (k := g) (by rw [HTL.out]; omega)
                    injection e1 with e1; injection e1 with e2 e3
                    subst e2; subst e3
                    rw [Nat.zero_add] at hcg
                    have HKEY : Hid (keyP true L t i < keyP true L t g ↔ ti < tg) := by
                      unfold keyP; rw [if_pos rfl, if_pos rfl, HTI.out, htg.out]; exact Iff.rfl
                    clear hxg htg
                    by_cases hq : ti < tg
                    · have dq : decide (ti < tg) = true := decide_eq_true hq
                      have HNX : Hid ((i : Int) = pkTo true L t k (i + 1)) := by
                        rw [pkTo, ← HZ.out, if_pos ⟨by rw [HX.out]; exact hr, by rw [HTI.out]; exact ht0, .inr (HKEY.out.2 hq)⟩]; exact hide rfl
                      go_wp2
                      go_quiet (fail)
                      go_wp2
                      go_roundw
                      case rel => exact ⟨i + 1, (i : Int), by omega, by go_num, rfl, by omega, by omega, HNX, HBWD.out _ _⟩
                      case measure => simp [intOf] <;> omega
                    · have dq : decide (ti < tg) = false := decide_eq_false hq
                      have HNX : Hid ((g : Int) = pkTo true L t k (i + 1)) := by
                        rw [pkTo, ← HZ.out, if_neg (fun h => by rcases h.2.2 with h | h; exact hz h; exact hq (HKEY.out.1 h))]; exact hide rfl
                      go_wp2
                      go_quiet (fail)
                      go_wp2
                      go_roundw
                      case rel => exact ⟨i + 1, (g : Int), by omega, by go_num, rfl, by omega, by omega, HNX, HBWD.out _ _⟩
                      case measure => simp [intOf] <;> omega
                · have d1 : decide ((k : Int) < r) = false := decide_eq_false (by omega)
                  have HNX : Hid (z = pkTo true L t k (i + 1)) := by rw [pkTo, if_neg (fun h => ht0 (by rw [← HTI.out]; exact h.2.1))]; exact HZ.out
                  obtain rfl : ti = 0 := by omega
                  clear ht0
                  go_wp2
                  go_roundw
                  case rel => exact ⟨i + 1, z, by omega, by go_num, rfl, by omega, by omega, HNX, HBW.out _⟩
                  case measure => simp [intOf] <;> omega
              · have d1 : decide ((k : Int) < r) = true := decide_eq_true (by omega)
                have HNX : Hid (z = pkTo true L t k (i + 1)) := by rw [pkTo, if_neg (fun h => hr (by have := h.1; rw [HX.out] at this; exact this))]; exact HZ.out
                go_wp2
                go_roundw
                case rel => exact ⟨i + 1, z, by omega, by go_num, rfl, by omega, by omega, HNX, HBW.out _⟩
                case measure => simp [intOf] <;> omega
            · obtain rfl : n = i := by omega
              have HPK : Hid (z = pk true L t k) := by rw [pk, HN.out]; exact HZ.out
              have HR3 := hide (own_keepS HT.out (fun g hg => HB3.out.block g (own_ltS HT.out g hg).2))
              have HO3 := hide (own_keepS HO2.out (fun g hg => HB3.out.block g (own_ltS HO2.out g hg).2))
              by_cases hz : z < 0
              · have d3 : decide (z < 0) = true := decide_eq_true hz
                have HST : Hid (runP true L (k + 1) = (t, out)) := by rw [HSN.out, stepP]; simp only []; rw [← HPK.out, if_pos hz]; exact hide rfl
                clear hb3
                go_wp2
                go_roundw
                case rel => exact ⟨k + 1, X, m, c', y, by omega, by go_num, rfl, hmc, rfl, by rw [HST.out]; exact HSY, by rw [HST.out]; exact HM, by rw [HST.out]; exact HR3, by rw [HST.out]; exact HO3, HW3.out, hide (Nat.le_trans HWQ.out HB3.out.size)⟩
                case measure => simp [intOf] <;> omega
              · have d3 : decide (z < 0) = false := decide_eq_false hz
                obtain ⟨g, rfl⟩ : ∃ g : Nat, z = g := ⟨z.toNat, by omega⟩
                have hgn : g < n := by omega
                have hgi : (g : Int) < (n : Int) := by omega
                obtain ⟨tg, htg⟩ : ∃ tg, t.getD g 0 = tg := ⟨_, rfl⟩
                have HST : Hid (runP true L (k + 1) = (t.set g (tg - 1), addP out g k)) := by rw [HSN.out, stepP]; simp only []; rw [← HPK.out, if_neg hz, Int.toNat_natCast, htg]; exact hide rfl
                have HSU : Hid (y - 1 = sumT (t.set g (tg - 1)) n) := by rw [sumT_set (by rw [HTL.out]; exact hgn), if_pos hgn, ← HSY.out, htg]; exact hide (by omega)
                have hcg : w3.cell? ⟨gl, g, none⟩ = some (.int .i64 tg) := own_cell HR3.out (by rw [List.getElem?_map, List.getElem?_eq_getElem (by rw [HTL.out]; exact hgn), getD_cons_of (d := 0) (by rw [HTL.out]; exact hgn), htg]; rfl)
                have hfg : w3.frozen? ⟨gl, g, none⟩ = false := own_free HR3.out g
                have hs3 : gl < w3.heap.size := (own_ltS HR3.out gl rfl).2
                have HQS : Hid (w.heap.size ≤ wq.heap.size) := hide HB.out.size
                have HQ3 : Hid (wq.heap.size ≤ w3.heap.size) := hide (Nat.le_trans HWQ.out HB3.out.size)
                have HR4 : Hid ((w3.setCell ⟨gl, g, none⟩ (.int .i64 (tg - 1))).ownsRow w.heap.size 3 1 (.slice (some ⟨gl, 0, none⟩) n cl) n ((t.set g (tg - 1)).map (Value.int .i64))) := by
                  rw [List.map_set]; exact hide (own_set HR3.out (by omega) _)
                have HO4 := hide (own_farS (b' := gl) (i := g) HO3.out (fun x hx h => by have := (own_ltS HO3.out x hx).1; omega) (.int .i64 (tg - 1)))
                have htb := HTB2.out g hgn
                rw [htg] at htb
                obtain ⟨htb0, htb1⟩ := htb
                have HTG := hide htg
                have HB4 : Hid (Below w.heap.size w (w3.setCell ⟨gl, g, none⟩ (.int .i64 (tg - 1)))) := HW3.out.setCell (show w.heap.size ≤ gl from hgl0) _
                have hmk : m ≤ 300 := by have := HOK.out.num; have := HM.out; simp only [] at *; omega
                have HSZ4 : Hid (wq.heap.size ≤ (w3.setCell ⟨gl, g, none⟩ (.int .i64 (tg - 1))).heap.size) := by simp; exact HQ3
                have hone : ∀ u ∈ [Value.int .i64 (g : Nat), .int .i64 (k : Nat), .int .i64 ((k : Int) + 1)], u.oneCell' = true := by intro u hu; simp at hu; rcases hu with rfl | rfl | rfl <;> rfl
                clear htg hb3
                by_cases hm0 : m = 0
                · subst hm0
                  have HAD : Hid (addP out g k = out ++ [⟨g, k, k + 1⟩]) := by rw [addP, if_neg (fun h => by have := HM.out; omega)]; exact hide rfl
                  go_wp2_with (at_builtin; refine wpList_appS (w0 := w3.setCell ⟨gl, g, none⟩ (.int .i64 (tg - 1))) _ _ 31 36 (.agg #[.int .i64 0, .int .i64 0, .int .i64 0]) 3 24 rfl rfl Try.underlying31 info_rpiece rfl (by decide) wq.heap.size (.slice X 0 c') 0 (pcells out) [.int .i64 (g : Nat), .int .i64 (k : Nat), .int .i64 ((k : Int) + 1)] rfl rfl (by simp [Act.eval]) rfl ⟨_, rfl⟩ HO4.out hone (by omega) (by omega) HSZ4.out ?_; intro ga cg w7 hown1 hd1 hd2 hg1 hgl2 hgrow; have HOW7 := hide hown1; have HG := hide hgrow; clear hown1 hgrow)
                  go_roundw
                  case rel =>
                    refine ⟨k + 1, some ⟨ga, 0, none⟩, 0 + 1, cg, _, by omega, by go_num, rfl, hd1, rfl, ?_, ?_, ?_, ?_, HB4.out.grown HG.out HB4.out.size (fun x hx => by have := (own_ltS HO4.out x hx).1; have := HQS.out; omega), hide (Nat.le_trans HSZ4.out HG.out.size)⟩
                    · rw [HST.out]; exact HSU
                    · rw [HST.out, HAD.out]; exact hide (by rw [List.length_append, HM.out]; rfl)
                    · rw [HST.out]; exact hide (own_keepS HR4.out (fun x hx => HG.out.block _ (own_ltS HR4.out x hx).2 (fun e => by have h1 := (own_ltS HO4.out _ e.symm).1; have h2 := hglq; have := own_blk hx; omega)))
                    · rw [HST.out, HAD.out, pcells_snoc]; exact HOW7
                  case measure => simp [intOf] <;> omega
                · obtain ⟨q, rfl⟩ : ∃ q, m = q + 1 := ⟨m - 1, by omega⟩
                  obtain ⟨g2, cc, hX, hg2, hcc2, hcm2, hg2l⟩ := own_formS HO3.out (by omega)
                  injection hX with hX1 _ hX2
                  subst hX1; subst hX2
                  have hql : q < out.length := by rw [HM.out]; omega
                  obtain ⟨jo, fo, to, hp⟩ : ∃ jo fo to, out.getD q p0 = ⟨jo, fo, to⟩ := ⟨_, _, _, rfl⟩
                  have hca := pcells_at out q hql
                  rw [hp] at hca
                  have y0 := own_cell HO4.out hca.1
                  have y2 := own_cell HO4.out hca.2.2
                  have f2 := own_free HO4.out (q * 3 + 2)
                  have HPQ := hide hp
                  have HS4 := hide (own_set HO4.out (i := q * 3 + 2) (by omega) (.int .i64 (to + 1)))
                  have hto : 0 ≤ to ∧ to ≤ 300 := by have h := HOK.out.pc q hql; simp only [] at h; rw [hp] at h; simp only [] at h; omega
                  obtain ⟨hto0, hto1⟩ := hto
                  have hgne : g2 ≠ gl := by omega
                  have hqi : ((q : Int) + 1) - 1 = q := by omega
                  have hql2 : (q : Int) < (q : Int) + 1 := by omega
                  clear hp hca hql
                  by_cases hjo : jo = (g : Int)
                  · by_cases hto2 : to = (k : Int)
                    · have e1 : (jo == (g : Int)) = true := by simp [hjo]
                      have e2 : (to == (k : Int)) = true := by simp [hto2]
                      have HAD : Hid (addP out g k = out.set q ⟨jo, fo, to + 1⟩) := by
                        rw [addP, HM.out, show q + 1 - 1 = q by omega, HPQ.out, if_pos ⟨by omega, hjo, hto2⟩, hto2]; exact hide rfl
                      clear hjo hto2
                      go_wp2
                      go_roundw
                      case rel =>
                        refine ⟨k + 1, some ⟨g2, 0, none⟩, q + 1, _, _, by omega, by go_num, rfl, hmc, rfl, ?_, ?_, ?_, ?_, HB4.out.setCell (show w.heap.size ≤ g2 by have := HQS.out; omega) _, by simp; exact HQ3⟩
                        · rw [HST.out]; exact HSU
                        · rw [HST.out, HAD.out]; exact hide (by rw [List.length_set]; exact HM.out)
                        · rw [HST.out]; exact hide (own_farS HR4.out (fun x hx e => hgne (by have := own_blk hx; omega)) _)
                        · rw [HST.out, HAD.out]
                          have e9 := pcells_set2 out q (to + 1) (by rw [HM.out]; omega)
                          rw [HPQ.out] at e9
                          rw [← e9]; exact HS4
                      case measure => simp [intOf] <;> omega
                    · have e1 : (jo == (g : Int)) = true := by simp [hjo]
                      have e2 : (to == (k : Int)) = false := by simp [hto2]
                      have HAD : Hid (addP out g k = out ++ [⟨g, k, k + 1⟩]) := by rw [addP, HM.out, show q + 1 - 1 = q by omega, HPQ.out, if_neg (fun h => hto2 h.2.2)]; exact hide rfl
                      clear hjo hto2
                      go_wp2_with (at_builtin; refine wpList_appS (w0 := w3.setCell ⟨gl, g, none⟩ (.int .i64 (tg - 1))) _ _ 31 36 (.agg #[.int .i64 0, .int .i64 0, .int .i64 0]) 3 24 rfl rfl Try.underlying31 info_rpiece rfl (by decide) wq.heap.size (.slice (some ⟨g2, 0, none⟩) (q + 1) c') (q + 1) (pcells out) [.int .i64 (g : Nat), .int .i64 (k : Nat), .int .i64 ((k : Int) + 1)] rfl rfl (by simp [Act.eval]) rfl ⟨_, rfl⟩ HO4.out hone (by omega) (by omega) HSZ4.out ?_; intro ga cg w7 hown1 hd1 hd2 hg1 hgl2 hgrow; have HOW7 := hide hown1; have HG := hide hgrow; clear hown1 hgrow)
                      go_roundw
                      case rel =>
                        refine ⟨k + 1, some ⟨ga, 0, none⟩, (q + 1) + 1, cg, _, by omega, by go_num, rfl, hd1, rfl, ?_, ?_, ?_, ?_, HB4.out.grown HG.out HB4.out.size (fun x hx => by have := (own_ltS HO4.out x hx).1; have := HQS.out; omega), hide (Nat.le_trans HSZ4.out HG.out.size)⟩
                        · rw [HST.out]; exact HSU
                        · rw [HST.out, HAD.out]; exact hide (by rw [List.length_append, HM.out]; rfl)
                        · rw [HST.out]; exact hide (own_keepS HR4.out (fun x hx => HG.out.block _ (own_ltS HR4.out x hx).2 (fun e => by have h1 := (own_ltS HO4.out _ e.symm).1; have h2 := hglq; have := own_blk hx; omega)))
                        · rw [HST.out, HAD.out, pcells_snoc]; exact HOW7
                      case measure => simp [intOf] <;> omega
                  · have e1 : (jo == (g : Int)) = false := by simp [hjo]
                    have HAD : Hid (addP out g k = out ++ [⟨g, k, k + 1⟩]) := by rw [addP, HM.out, show q + 1 - 1 = q by omega, HPQ.out, if_neg (fun h => hjo h.2.1)]; exact hide rfl
                    clear hjo
                    go_wp2_with (at_builtin; refine wpList_appS (w0 := w3.setCell ⟨gl, g, none⟩ (.int .i64 (tg - 1))) _ _ 31 36 (.agg #[.int .i64 0, .int .i64 0, .int .i64 0]) 3 24 rfl rfl Try.underlying31 info_rpiece rfl (by decide) wq.heap.size (.slice (some ⟨g2, 0, none⟩) (q + 1) c') (q + 1) (pcells out) [.int .i64 (g : Nat), .int .i64 (k : Nat), .int .i64 ((k : Int) + 1)] rfl rfl (by simp [Act.eval]) rfl ⟨_, rfl⟩ HO4.out hone (by omega) (by omega) HSZ4.out ?_; intro ga cg w7 hown1 hd1 hd2 hg1 hgl2 hgrow; have HOW7 := hide hown1; have HG := hide hgrow; clear hown1 hgrow)
                    go_roundw
                    case rel =>
                      refine ⟨k + 1, some ⟨ga, 0, none⟩, (q + 1) + 1, cg, _, by omega, by go_num, rfl, hd1, rfl, ?_, ?_, ?_, ?_, HB4.out.grown HG.out HB4.out.size (fun x hx => by have := (own_ltS HO4.out x hx).1; have := HQS.out; omega), hide (Nat.le_trans HSZ4.out HG.out.size)⟩
                      · rw [HST.out]; exact HSU
                      · rw [HST.out, HAD.out]; exact hide (by rw [List.length_append, HM.out]; rfl)
                      · rw [HST.out]; exact hide (own_keepS HR4.out (fun x hx => HG.out.block _ (own_ltS HR4.out x hx).2 (fun e => by have h1 := (own_ltS HO4.out _ e.symm).1; have h2 := hglq; have := own_blk hx; omega)))
                      · rw [HST.out, HAD.out, pcells_snoc]; exact HOW7
                    case measure => simp [intOf] <;> omega
end Go.Proofs.Ytiadineakhcclaa

/-
  The reference: ends, Plan, Short, Delay.
-/
namespace Go.Proofs.Ytiadineakhcclaa
open Go.RowKit Go.Deep
set_option linter.unusedVariables false
set_option linter.unusedSimpArgs false

set_option maxHeartbeats 1600000 in
theorem refends_any (A : Option Addr) (n c : Nat) (P : Option Addr) (m pc : Nat) (p : List P3) (w : World) (hn : n ≤ 8) (hm : p.length = m) (hmm : m ≤ 9223372036854775807) (hok : PcOk n p) (hP : PcsA w w.heap.size P p) :
    Calls Try.prog 58 #[.slice A n c, .slice P m pc] w fun e w' => ∃ X c', e = .returned (.slice X n c') ∧ n ≤ c' ∧ IntsA w' w'.heap.size X (finN n p) ∧ Below w.heap.size w w' := by
  have hmk := run_make_row' (P := Try.prog) 41 3 (.int .i64 0) 8 Try.underlying41 info_int rfl .i64 .i64 n (by omega) (by omega)
  obtain ⟨w1, hw1⟩ : ∃ w1, w1 = w.alloc (.cells (madeCells #[.int .i64 0] n) 3) := ⟨_, rfl⟩
  have HR1 : Hid (w1.rowIs w.heap.size 3 n (fun a => .int .i64 ((finTo n p 0).getD a 0))) := by
    subst hw1
    refine (World.rowIs_made w (.int .i64 0) n _).congr fun a ha => ?_
    rw [finTo, List.getD_eq_getElem?_getD, List.getElem?_replicate, if_pos ha]; rfl
  have HB1 : Hid (Below w.heap.size w w1) := by subst hw1; exact (Below.refl _ _).alloc (Nat.le_refl _) _
  have HM := hide hm
  have HOK := hide hok
  have HP := hide hP
  have hmn : (0 : Int) ≤ n := by omega
  clear hm hok hP
  go_enter Try.func58, Try.ntmps58
  go_wp2
  rw [← hw1]
  clear hw1 hmk
  go_loopw [13] (fun v wr => ∃ k : Nat, k ≤ m ∧ v = .int .i64 k ∧ Hid (wr.rowIs w.heap.size 3 n (fun a => .int .i64 ((finTo n p k).getD a 0))) ∧ Below w.heap.size w wr) (fun v _ => m - (intOf v).toNat)
  case atStart => exact ⟨0, Nat.zero_le _, rfl, HR1, HB1.out⟩
  case round =>
    obtain ⟨k, hk, rfl, HR, hb⟩ := hrel
    have HB := hide hb
    by_cases hlt : k < m
    · obtain ⟨bj, oj, j, f, t, rfl, hbj, hc0, hc1, hc2, hx⟩ := (HP.out.below hb).at_ (k := k) (by rw [HM.out]; exact hlt)
      have hkn : (k : Int) < (m : Int) := by omega
      have hj := HOK.out k (by rw [HM.out]; exact hlt)
      rw [hx.out] at hj
      obtain ⟨i, rfl⟩ : ∃ i : Nat, j = i := ⟨j.toNat, by have := hj.1; simp only [] at this; omega⟩
      have hi : i < n := by have := hj.2; simp only [] at this; omega
      have hin : (i : Int) < (n : Int) := by omega
      have hfz := HR.out.frozen i
      have hcr : ∃ v, wr.cell? ⟨w.heap.size, i, none⟩ = some v := ⟨_, HR.out.cell hi⟩
      obtain ⟨v, hcr⟩ := hcr
      have hs3 : w.heap.size < wr.heap.size := HR.out.lt
      have HX := hide hx.out
      clear hx hb hj
      go_wp2
      go_roundw
      case rel =>
        refine ⟨k + 1, by omega, by go_num, hide (((HR.out.set i _).alloc _).congr fun a ha => ?_), (HB.out.setCell (Nat.le_refl _) _).alloc (by simp; exact HB.out.size) _⟩
        rw [finTo, HX.out]
        show (if a = i then Value.int .i64 t else Value.int .i64 ((finTo n p k).getD a 0)) = Value.int .i64 (((finTo n p k).set i t).getD a 0)
        rw [getD_set_i _ _ _ _ _ (by rw [finTo_len]; exact hi)]
        by_cases e : a = i
        · rw [if_pos e, if_pos e]
        · rw [if_neg e, if_neg e]
      case measure => simp [intOf] <;> omega
    · obtain rfl : m = k := by omega
      have HI := hide (ints_of_row HR.out (by rw [finTo_len]) (fun i hi => rfl))
      have HE : Hid (finTo n p m = finN n p) := by rw [finN, HM.out]; exact hide rfl
      go_wp2
      go_ret
      exact ⟨_, n, rfl, Nat.le_refl _, by rw [← HE.out]; exact HI.out, hb⟩

set_option maxHeartbeats 800000 in
theorem refPlan_any (A : Option Addr) (n c : Nat) (L : List J4) (w : World) (hn : L.length = n) (hL : JobsOk L) (hA : JobsA w w.heap.size A L) :
    Calls Try.prog 37 #[.slice A n c] w fun e w' => ∃ X m c', e = .returned (.slice X m c') ∧ (planN false L).length = m ∧ m ≤ c' ∧ PcsA w' w'.heap.size X (planN false L) ∧ Below w.heap.size w w' := by
  have HP := hide (refplanD_any A n c L w hn hL hA)
  clear hn hL hA
  go_enter Try.func37, Try.ntmps37
  go_wp2_with (go_at_call 57; refine (HP.out).mono ?_; rintro e w' ⟨X, m, c', rfl, h1, h2, h3, h4⟩; have H1 := hide h1; have H3 := hide h3; have H4 := hide h4; clear h1 h3 h4)
  go_ret
  exact ⟨X, m, c', rfl, H1.out, h2, H3.out, H4.out⟩
set_option maxHeartbeats 1600000 in
theorem refShort_any (A : Option Addr) (n c : Nat) (L : List J4) (w : World) (hn : L.length = n) (hL : JobsOk L) (hA : JobsA w w.heap.size A L) :
    Calls Try.prog 21 #[.slice A n c] w fun e w' => ∃ X m c', e = .returned (.tuple #[.slice X m c', .int .i64 (endSum L (planN true L))]) ∧ (planN true L).length = m ∧ m ≤ c' ∧ PcsA w' w'.heap.size X (planN true L) ∧ Below w.heap.size w w' := by
  have h8 : n ≤ 8 := by rw [← hn]; exact hL.le
  have hok : PlOk n (planN true L) := hn ▸ planN_ok true hL
  have HD := hide (refplanS_any A n c L w hn hL hA)
  have HE := hide (fun P m pc w2 (hb : Below w.heap.size w w2) hm (hP : PcsA w2 w2.heap.size P (planN true L)) => refends_any A n c P m pc (planN true L) w2 h8 hm (by have := hok.len; omega) hok.job hP)
  have HBD := hide (finN_bd hok)
  have HES : Hid (endSum L (planN true L) = sumT (finN n (planN true L)) n) := by rw [endSum, hn]; exact hide rfl
  have HEL : Hid ((finN n (planN true L)).length = n) := finTo_len n _ _
  clear hA hn hL hok
  obtain ⟨p, hp⟩ : ∃ p, planN true L = p := ⟨_, rfl⟩
  rw [hp] at HD HE HBD HES HEL
  rw [hp]
  clear hp
  obtain ⟨ends, hends⟩ : ∃ ends, finN n p = ends := ⟨_, rfl⟩
  rw [hends] at HE HBD HES HEL
  clear hends
  go_enter Try.func21, Try.ntmps21
  go_wp2_with (first
    | (go_at_call 57; refine (HD.out).mono ?_; rintro e w2 ⟨X, m, c', rfl, h1, h2, h3, h4⟩; have H1 := hide h1; have H3 := hide h3; have H4 := hide h4; clear h1 h3 h4)
    | (go_at_call 58; refine (HE.out _ _ _ _ H4.out H1.out H3.out).mono ?_; rintro e w3 ⟨X2, c2, rfl, hc2, hI, h5⟩; have HI := hide hI; have H6 := hide (H3.out.next h5); have H5 := hide (H4.out.trans (h5.mono H4.out.size)); clear hI h5))
  go_loop [5, 14] (fun v7 v22 => ∃ (k : Nat) (y : Int), k ≤ n ∧ v22 = .int .i64 k ∧ v7 = .int .i64 y ∧ 0 ≤ y ∧ y ≤ 1000 * k ∧ Hid (y = sumT ends k)) (fun _ v => n - (intOf v).toNat)
  case atStart => exact ⟨0, 0, Nat.zero_le _, rfl, rfl, by omega, by omega, hide rfl⟩
  case round =>
    obtain ⟨k, y, hk, rfl, rfl, hy0, hy1, HY⟩ := hrel
    by_cases hlt : k < n
    · obtain ⟨b1, o1, x, rfl, hb1, hc1, hx⟩ := HI.out.at_ (k := k) (by rw [HEL.out]; exact hlt)
      have hkn : (k : Int) < (n : Int) := by omega
      have hxb := HBD.out k
      rw [hx.out] at hxb
      obtain ⟨hxb0, hxb1⟩ := hxb
      have HY2 : Hid (y + x = sumT ends (k + 1)) := by rw [sumT, ← HY.out, hx.out]; exact hide rfl
      clear hx
      go_wp2
      go_round
      case rel => exact ⟨k + 1, _, by omega, by go_num, rfl, by omega, by omega, HY2⟩
      case measure => simp [intOf] <;> omega
    · obtain rfl : n = k := by omega
      have HY2 : Hid (y = endSum L p) := by rw [HES.out]; exact HY
      have e9 := HY2.out
      subst e9
      go_wp2
      go_ret2
      exact ⟨X, m, c', rfl, H1.out, h2, H6.out, H5.out⟩

/-- The greatest delay, from far below. -/
def rdelTo (L : List J4) (e : List Int) : Nat → Int
  | 0 => -1073741824
  | k + 1 => max (rdelTo L e k) (e.getD k 0 - (L.getD k j0).d)
theorem rdelTo_eq {L : List J4} {e : List Int} (hL : JobsOk L) (he : ∀ i, 0 ≤ e.getD i 0 ∧ e.getD i 0 ≤ 1000) : ∀ k, 1 ≤ k → k ≤ L.length → rdelTo L e k = delTo L e k
  | 1, _, hk => by
    have h1 := he 0
    have h2 := hL.at_ 0 hL.pos
    show max (-1073741824) (e.getD 0 0 - (L.getD 0 j0).d) = max (e.getD 0 0 - (L.getD 0 j0).d) (e.getD 0 0 - (L.getD 0 j0).d)
    omega
  | k + 2, _, hk => by
    have h1 := rdelTo_eq hL he (k + 1) (by omega) (by omega)
    rw [rdelTo, delTo, h1]
theorem rdelTo_bd {L : List J4} {e : List Int} (hL : JobsOk L) (he : ∀ i, 0 ≤ e.getD i 0 ∧ e.getD i 0 ≤ 1000) : ∀ k, k ≤ L.length → -1073741824 ≤ rdelTo L e k ∧ rdelTo L e k ≤ 1000
  | 0, _ => by simp [rdelTo]
  | k + 1, hk => by rw [rdelTo]; have := rdelTo_bd hL he k (by omega); have := he k; have := hL.at_ k (by omega); omega
set_option maxHeartbeats 1600000 in
theorem refDelay_any (A : Option Addr) (n c : Nat) (L : List J4) (w : World) (hn : L.length = n) (hL : JobsOk L) (hA : JobsA w w.heap.size A L) :
    Calls Try.prog 38 #[.slice A n c] w fun e w' => e = .returned (.int .i64 (delN L (planN false L))) ∧ Below w.heap.size w w' := by
  have h8 : n ≤ 8 := by rw [← hn]; exact hL.le
  have h1 : 1 ≤ n := by rw [← hn]; exact hL.pos
  have hok : PlOk n (planN false L) := hn ▸ planN_ok false hL
  have HD := hide (refPlan_any A n c L w hn hL hA)
  have HE := hide (fun P m pc w2 (hb : Below w.heap.size w w2) hm (hP : PcsA w2 w2.heap.size P (planN false L)) => refends_any A n c P m pc (planN false L) w2 h8 hm (by have := hok.len; omega) hok.job hP)
  have HBD := hide (finN_bd hok)
  have HES : Hid (delN L (planN false L) = delTo L (finN n (planN false L)) n) := by rw [delN, hn]; exact hide rfl
  have HEL : Hid ((finN n (planN false L)).length = n) := finTo_len n _ _
  have HA := hide hA
  have HN := hide hn
  have HL := hide hL
  clear hA hn hL hok
  obtain ⟨p, hp⟩ : ∃ p, planN false L = p := ⟨_, rfl⟩
  rw [hp] at HD HE HBD HES HEL
  rw [hp]
  clear hp
  obtain ⟨ends, hends⟩ : ∃ ends, finN n p = ends := ⟨_, rfl⟩
  rw [hends] at HE HBD HES HEL
  clear hends
  go_enter Try.func38, Try.ntmps38
  go_wp2_with (first
    | (go_at_call 37; refine (HD.out).mono ?_; rintro e w2 ⟨X, m, c', rfl, h1, h2, h3, h4⟩; have H1 := hide h1; have H3 := hide h3; have H4 := hide h4; clear h1 h3 h4)
    | (go_at_call 58; refine (HE.out _ _ _ _ H4.out H1.out H3.out).mono ?_; rintro e w3 ⟨X2, c2, rfl, hc2, hI, h5⟩; have HI := hide hI; have H5 := hide (H4.out.trans (h5.mono H4.out.size)); clear hI h5))
  go_loop [3, 11] (fun v7 v22 => ∃ (k : Nat) (y : Int), k ≤ n ∧ v22 = .int .i64 k ∧ v7 = .int .i64 y ∧ Hid (y = rdelTo L ends k)) (fun _ v => n - (intOf v).toNat)
  case atStart => exact ⟨0, _, Nat.zero_le _, rfl, rfl, hide rfl⟩
  case round =>
    obtain ⟨k, y, hk, rfl, rfl, HY⟩ := hrel
    by_cases hlt : k < n
    · obtain ⟨b1, o1, x, rfl, hb1, hc1, hx⟩ := HI.out.at_ (k := k) (by rw [HEL.out]; exact hlt)
      obtain ⟨bj2, oj2, t, r, d2, u, rfl, hbj2, hj0, hj1, hj2, hj3, hxj⟩ := (HA.out.next H5.out).at_ (k := k) (by rw [HN.out]; exact hlt)
      have hkn : (k : Int) < (n : Int) := by omega
      have hxb := HBD.out k
      rw [hx.out] at hxb
      obtain ⟨hxb0, hxb1⟩ := hxb
      have hdb := HL.out.at_ k (by rw [HN.out]; exact hlt)
      rw [hxj.out] at hdb
      simp only [] at hdb
      obtain ⟨_, _, _, _, hdb0, hdb1, _, _⟩ := hdb
      have HYN : Hid ((if y < x - d2 then x - d2 else y) = rdelTo L ends (k + 1)) := by
        have e : (if y < x - d2 then x - d2 else y) = max y (x - d2) := by split <;> omega
        rw [e, rdelTo, ← HY.out, hx.out, hxj.out]; exact hide rfl
      clear hx hxj
      go_wp2
      go_round
      case rel => exact ⟨k + 1, _, by omega, by go_num, rfl, HYN⟩
      case measure => simp [intOf] <;> omega
    · obtain rfl : n = k := by omega
      have HY2 : Hid (y = delN L p) := by rw [HES.out, ← rdelTo_eq HL.out HBD.out n h1 (by rw [HN.out]; exact Nat.le_refl _)]; exact HY
      have e9 := HY2.out
      subst e9
      go_wp2
      go_ret
      exact ⟨rfl, H5.out⟩
end Go.Proofs.Ytiadineakhcclaa

/-
  Memory of pairs (two cells each); Befores; pairs.
-/
namespace Go.Proofs.Ytiadineakhcclaa
open Go.RowKit Go.Deep
set_option linter.unusedVariables false
set_option linter.unusedSimpArgs false

def PrsA (w : World) (B : Nat) (A : Option Addr) (l : List (Int × Int)) : Prop :=
  ∀ i, i < l.length → ∃ b o, A = some ⟨b, o, none⟩ ∧ b < B ∧ w.cell? ⟨b, o + i * 2, none⟩ = some (.int .i64 (l.getD i (0, 0)).1) ∧ w.cell? ⟨b, o + i * 2 + 1, none⟩ = some (.int .i64 (l.getD i (0, 0)).2)
section
variable {w w' : World} {B B' : Nat} {A : Option Addr} {l : List (Int × Int)}
theorem PrsA.at_ {k : Nat} (h : PrsA w B A l) (hk : k < l.length) : ∃ b o x y, A = some ⟨b, o, none⟩ ∧ b < B ∧ w.cell? ⟨b, o + k * 2, none⟩ = some (.int .i64 x) ∧ w.cell? ⟨b, o + k * 2 + 1, none⟩ = some (.int .i64 y) ∧ Hid (l.getD k (0, 0) = (x, y)) :=
  let ⟨b, o, e, hb, h1, h2⟩ := h k hk
  ⟨b, o, _, _, e, hb, h1, h2, rfl⟩
theorem PrsA.keep (h : PrsA w B A l) (hk : ∀ p : Addr, p.block < B → w'.cell? p = w.cell? p) : PrsA w' B A l := fun i hi =>
  let ⟨b, o, e, hb, h1, h2⟩ := h i hi
  ⟨b, o, e, hb, (hk ⟨b, _, none⟩ hb).trans h1, (hk ⟨b, _, none⟩ hb).trans h2⟩
theorem PrsA.more (h : PrsA w B A l) (hB : B ≤ B') : PrsA w B' A l := fun i hi =>
  let ⟨b, o, e, hb, h1⟩ := h i hi
  ⟨b, o, e, by omega, h1⟩
theorem PrsA.below (h : PrsA w B A l) (hb : Below B w w') : PrsA w' B A l := h.keep fun _ hp => hb.cell hp
theorem PrsA.top (h : PrsA w B A l) : PrsA w w.heap.size A l := fun i hi =>
  let ⟨b, o, e, _, h1⟩ := h i hi
  ⟨b, o, e, cell_lt h1.1, h1⟩
theorem PrsA.next (h : PrsA w B A l) (hb : Below w.heap.size w w') : PrsA w' w'.heap.size A l := ((h.top).below hb).top
theorem PrsA.nil_ : PrsA w B A [] := fun i hi => absurd hi (by simp)
theorem PrsA.take (h : PrsA w B A l) (k : Nat) : PrsA w B A (l.take k) := fun i hi => by
  rw [List.length_take] at hi
  obtain ⟨b, o, e, hb, h1, h2⟩ := h i (by omega)
  have e2 : (l.take k).getD i (0, 0) = l.getD i (0, 0) := by rw [List.getD_eq_getElem?_getD, List.getD_eq_getElem?_getD, List.getElem?_take, if_pos (by omega)]
  rw [e2]
  exact ⟨b, o, e, hb, h1, h2⟩
end
def prOk (n : Nat) (p : Int × Int) : Bool := decide (0 ≤ p.1 ∧ p.1 < n ∧ 0 ≤ p.2 ∧ p.2 < n)
def prsOk (l : List (Int × Int)) (n : Nat) : Bool := l.all (prOk n)
theorem prsOk_take {l : List (Int × Int)} {n k : Nat} (hk : k < l.length) : prsOk (l.take (k + 1)) n = (prsOk (l.take k) n && prOk n (l.getD k (0, 0))) := by
  unfold prsOk
  rw [List.take_succ_eq_append_getElem hk, List.all_append, getD_cons_of (d := ((0 : Int), (0 : Int))) hk]
  simp
theorem prsOk_false {l : List (Int × Int)} {n k : Nat} (hk : k < l.length) (h : prOk n (l.getD k (0, 0)) = false) : prsOk l n = false := by
  unfold prsOk
  rw [List.all_eq_false]
  exact ⟨_, List.getElem_mem hk, by rw [getD_cons_of (d := ((0 : Int), (0 : Int))) hk, h]; decide⟩
def okBef (l : List (Int × Int)) (n : Nat) : Bool := prsOk l n && decide (l.length ≤ 16)
theorem okBef_false {l : List (Int × Int)} {n k : Nat} (hk : k < l.length) (h : prOk n (l.getD k (0, 0)) = false) : okBef l n = false := by rw [okBef, prsOk_false hk h]; rfl
set_option maxRecDepth 100000 in
set_option maxHeartbeats 1600000 in
theorem refBefores_any (A : Option Addr) (n c : Nat) (PA : Option Addr) (m pc : Nat) (P : List (Int × Int)) (w : World) (hlen : n ≤ 9223372036854775807) (hm : P.length = m) (hmm : m ≤ 9223372036854775807) (hP : PrsA w w.heap.size PA P) :
    Calls Try.prog 42 #[.slice A n c, .slice PA m pc] w fun e w' => e = .returned (.bool (okBef P n)) ∧ Below w.heap.size w w' := by
  have HM := hide hm
  have HP := hide hP
  clear hm hP
  go_enter Try.func42, Try.ntmps42
  go_wp2
  go_loopw [9] (fun v wr => ∃ k : Nat, k ≤ m ∧ v = .int .i64 k ∧ Hid (prsOk (P.take k) n = true) ∧ Below w.heap.size w wr) (fun v _ => m - (intOf v).toNat)
  case atStart => exact ⟨0, Nat.zero_le _, rfl, hide (by simp [prsOk]), Below.refl _ _⟩
  case round =>
    obtain ⟨k, hk, rfl, HO, hb⟩ := hrel
    have HB := hide hb
    by_cases hlt : k < m
    · obtain ⟨bj, oj, x, y, rfl, hbj, hc0, hc1, hx⟩ := (HP.out.next hb).at_ (k := k) (by rw [HM.out]; exact hlt)
      have hkn : (k : Int) < (m : Int) := by omega
      have HX := hide hx.out
      have HBA : Hid (∀ o, Below w.heap.size w (wr.alloc o)) := fun o => HB.out.alloc HB.out.size _
      clear hb hx
      by_cases hok : prOk n (x, y) = true
      · have HT : Hid (prsOk (P.take (k + 1)) n = true) := by show _ = _; rw [prsOk_take (by rw [HM.out]; exact hlt), HO.out, HX.out, hok]; rfl
        unfold prOk at hok
        rw [decide_eq_true_iff] at hok
        obtain ⟨h1, h2, h3, h4⟩ := hok
        simp only [] at h1 h2 h3 h4
        have d1 : decide (x < 0) = false := decide_eq_false (by omega)
        have d2 : decide ((n : Int) ≤ x) = false := decide_eq_false (by omega)
        have d3 : decide (y < 0) = false := decide_eq_false (by omega)
        have d4 : decide ((n : Int) ≤ y) = false := decide_eq_false (by omega)
        go_wp2
        go_roundw
        case rel => exact ⟨k + 1, by omega, by go_num, HT, HBA.out _⟩
        case measure => simp [intOf] <;> omega
      · have HF : Hid (okBef P n = false) := hide (okBef_false (by rw [HM.out]; exact hlt) (by rw [HX.out]; simpa using hok))
        unfold prOk at hok
        rw [decide_eq_true_iff] at hok
        simp only [] at hok
        by_cases h1 : x < 0
        · go_wp2
          go_ret
          exact ⟨by rw [HF.out]; rfl, HBA.out _⟩
        · by_cases h2 : (n : Int) ≤ x
          · go_wp2
            go_ret
            exact ⟨by rw [HF.out]; rfl, HBA.out _⟩
          · by_cases h3 : y < 0
            · go_wp2
              go_ret
              exact ⟨by rw [HF.out]; rfl, HBA.out _⟩
            · have h4 : (n : Int) ≤ y := by omega
              go_wp2
              go_ret
              exact ⟨by rw [HF.out]; rfl, HBA.out _⟩
    · obtain rfl : m = k := by omega
      have HR : Hid (okBef P n = decide (m ≤ 16)) := by
        have h := HO.out
        rw [List.take_of_length_le (by rw [HM.out]; exact Nat.le_refl _)] at h
        show _ = _; rw [okBef, h, HM.out]; rfl
      clear hb
      by_cases h16 : m ≤ 16
      · have h16b : (m : Int) ≤ 16 := by omega
        rw [decide_eq_true h16] at HR
        go_wp2
        go_ret
        exact ⟨by rw [HR.out]; simp [h16b], HB.out⟩
      · have h16b : ¬ (m : Int) ≤ 16 := by omega
        rw [decide_eq_false h16] at HR
        go_wp2
        go_ret
        exact ⟨by rw [HR.out]; simp [h16b], HB.out⟩

/-! The pairs that the statements hand over. -/
def prcells (l : List (Int × Int)) : List Value := l.flatMap fun p => [.int .i64 p.1, .int .i64 p.2]
theorem prcells_len : ∀ l : List (Int × Int), (prcells l).length = l.length * 2
  | [] => rfl
  | p :: l => by
    have := prcells_len l
    show ([_, _] ++ prcells l).length = _
    rw [List.length_append, this]; simp only [List.length_cons, List.length_nil]; omega
theorem prcells_at : ∀ (l : List (Int × Int)) (i : Nat), i < l.length → (prcells l)[i * 2]? = some (.int .i64 (l.getD i (0, 0)).1) ∧ (prcells l)[i * 2 + 1]? = some (.int .i64 (l.getD i (0, 0)).2)
  | [], i, h => absurd h (by simp)
  | p :: l, 0, _ => ⟨rfl, rfl⟩
  | p :: l, i + 1, h => by
    have := prcells_at l i (by simpa using h)
    have e : prcells (p :: l) = [.int .i64 p.1, .int .i64 p.2] ++ prcells l := rfl
    have g : (p :: l).getD (i + 1) ((0 : Int), (0 : Int)) = l.getD i (0, 0) := by simp
    rw [g, e]
    refine ⟨?_, ?_⟩
    · rw [List.getElem?_append_right (by simp; omega)]; rw [show (i + 1) * 2 - [Value.int .i64 p.1, .int .i64 p.2].length = i * 2 by simp; omega]; exact this.1
    · rw [List.getElem?_append_right (by simp; omega)]; rw [show (i + 1) * 2 + 1 - [Value.int .i64 p.1, .int .i64 p.2].length = i * 2 + 1 by simp; omega]; exact this.2
theorem prs_of_own {w : World} {base n : Nat} {e : TypeId} {A : Option Addr} {c : Nat} {l : List (Int × Int)} (h : w.ownsRow base e 2 (.slice A n c) n (prcells l)) : PrsA w w.heap.size A l := fun i hi => by
  have hn : n = l.length := by have := h.1; rw [prcells_len] at this; omega
  obtain ⟨g, cap, hv, hg, h1, h2, h3⟩ := own_formS h (by omega)
  injection hv with e1 _ e2
  subst e1; subst e2
  have hc := prcells_at l i hi
  refine ⟨g, 0, rfl, h3, ?_⟩
  rw [Nat.zero_add]
  exact ⟨own_cell h hc.1, own_cell h hc.2⟩
theorem prcells_one (l : List (Int × Int)) : ∀ u ∈ prcells l, u.oneCell' = true := by
  intro u hu
  obtain ⟨p, _, hp⟩ := List.mem_flatMap.1 hu
  simp at hp
  rcases hp with rfl | rfl <;> rfl
section
variable {PP : Program} {ops : Array Oper} {rest : List Oper} {o : Oper} {a : Act} {Q : Exit → Act → World → Prop}
theorem wpList_appPrs {w : World} (s x : Operand) (t e : TypeId) (z : Value) (bytes : Nat) (ho : o.op = .call { callee := .builtin .append, args := #[s, x], argTypes := #[t, t] }) (hgd : o.guard = none)
    (ht : PP.underlying t = some (.slice e)) (hinfo : (PP.info? e).map (fun i => (i.zero, i.size, i.bytes)) = some (some z, 2, bytes)) (hz : z.cells.size = 2)
    (base : Nat) (v : Value) (n : Nat) (xs : List Value) (hs : a.eval s = v) (ad : Addr) (m c B : Nat) (l : List (Int × Int)) (hx : a.eval x = .slice (some ad) m c) (hm : l.length = m) (hI : PrsA w B (some ad) l)
    (hown : w.ownsRow base e 2 v n xs) (hbytes : (n + m) * bytes ≤ 140737488355328) (hn63 : n + m ≤ 9223372036854775807) (hbase : base ≤ w.heap.size)
    (h : ∀ A' c' w', w'.ownsRow base e 2 (.slice A' (n + m) c') (n + m) (xs ++ prcells l) → n + m ≤ c' → w.grownBy w' v.ownBlock →
      wpList PP ops Q rest (a.put o.dst (.slice A' (n + m) c')) w') : wpList PP ops Q (o :: rest) a w := by
  subst hm
  obtain ⟨i, hi, hz0, hz1, hz2⟩ := info_parts hinfo
  refine wpList_plain hgd fun K hK => ?_
  have hadd : ∀ (q : Addr) (b o j : Nat), q = ⟨b, o, none⟩ → q.add j = ⟨b, o + j, none⟩ := fun q b o j e => by
    subst e
    unfold Addr.add
    split
    · rename_i h0; subst h0; rfl
    · rfl
  have hnews : ∀ (j : Nat) (u : Value), (prcells l)[j]? = some u → w.cell? (ad.add j) = some u := by
    intro j u hj
    have hjl : j < (prcells l).length := by
      rcases Nat.lt_or_ge j (prcells l).length with h1 | h1
      · exact h1
      · rw [List.getElem?_eq_none h1] at hj; cases hj
    rw [prcells_len] at hjl
    obtain ⟨b, off, e1, _, hc, hc2⟩ := hI (j / 2) (by omega)
    injection e1 with e1
    rw [hadd ad b off j e1]
    have hat := prcells_at l (j / 2) (by omega)
    rcases Nat.mod_two_eq_zero_or_one j with h2 | h2
    · have e9 : j = j / 2 * 2 := by omega
      rw [show off + j = off + j / 2 * 2 by omega, hc]
      rw [e9, hat.1] at hj
      exact hj
    · have e9 : j = j / 2 * 2 + 1 := by omega
      rw [show off + j = off + j / 2 * 2 + 1 by omega, hc2]
      rw [e9, hat.2] at hj
      exact hj
  obtain ⟨v', w', hr, h2, h3, h4, h5⟩ := run_append_own_at (P := PP) w base t o.type e i z 2 bytes ht hi hz0 hz1 hz2 hz (by decide) v n xs hown ad l.length c (prcells l) (prcells_len l) hnews (prcells_one l)
    (by unfold maxLen; omega) hbytes hbase
  unfold Oper.wp execOp
  simp only [ho, resolve, invoke, builtin, Sem.run_bind, Sem.run_pure, Result.andThen_ok, List.map_toArray, List.map_cons, List.map_nil, hs, hx, hr]
  refine hK _ _ ?_
  rcases h2.2 with ⟨hv, h0⟩ | ⟨g, cap, cur, hv, hg, hh, hc, hmx, hs2, ht2⟩
  · subst hv
    have e0 : n + l.length = 0 := h0
    have := h none 0 w' (by rw [e0]; rw [e0] at h2; exact h2) (by omega) h3
    rw [e0] at this
    exact this
  · subst hv
    exact h _ cap w' h2 hc h3
end
theorem info_pr : (Try.prog.info? 64).map (fun i => (i.zero, i.size, i.bytes)) = some (some (.agg #[.int .i64 0, .int .i64 0]), 2, 16) := by kernel_rfl
set_option maxHeartbeats 800000 in
theorem clonePr_any (A : Option Addr) (n c B : Nat) (l : List (Int × Int)) (w : World) (hn : l.length = n) (hlen : n * 16 ≤ 140737488355328) (hA : PrsA w B A l) :
    Calls Try.prog 68 #[.slice A n c] w fun e w' => ∃ A' c', e = .returned (.slice A' n c') ∧ PrsA w' w'.heap.size A' l ∧ Below w.heap.size w w' := by
  have hq := fun (w : World) (a : Option Addr) (n c n' c' : Nat) => Lib.run_eql_slice_nil (P := Try.prog) w 72 _ a n c n' c' Try.underlying72
  cases A with
  | none =>
    have h0 : l = [] := by
      cases l with
      | nil => rfl
      | cons x l => obtain ⟨b, o, e, _⟩ := hA 0 (by simp); cases e
    subst h0
    subst hn
    go_enter Try.func68, Try.ntmps68
    go_wp2
    go_ret
    exact ⟨none, 0, rfl, PrsA.nil_, Below.refl _ _⟩
  | some ad =>
    have hI : PrsA (w.alloc (.cells #[] 64)) w.heap.size (some ad) l := (hA.top).keep fun p hp => World.cell?_alloc_lt _ _ _ hp
    have HN := hide hn
    clear hn
    go_enter Try.func68, Try.ntmps68
    have hown : (w.alloc (.cells #[] 64)).ownsRow w.heap.size 64 2 (.slice (some ⟨w.heap.size, 0, none⟩) 0 0) 0 [] :=
      ⟨rfl, .inr ⟨w.heap.size, 0, #[], rfl, Nat.le_refl _, alloc_new _ _ _ rfl, Nat.le_refl _, by decide, rfl, rfl⟩⟩
    have HO := hide hown
    clear hown
    go_wp2_with ((at_builtin); refine wpList_appPrs _ _ 72 64 (.agg #[.int .i64 0, .int .i64 0]) 16 rfl rfl Try.underlying72 info_pr rfl w.heap.size (.slice (some ⟨w.heap.size, 0, none⟩) 0 0) 0 [] rfl ad n c w.heap.size l rfl HN.out hI HO.out (by omega) (by omega) (by simp) ?_; intro A' c' w1 hown1 hc1 hgrow; have HOW := hide hown1; have HG := hide hgrow; clear hown1 hgrow)
    go_ret
    refine ⟨A', c', ?_, prs_of_own (by simpa using HOW.out), ?_⟩
    · rfl
    · exact ((Below.refl _ _).alloc (Nat.le_refl _) _).grown HG.out (by simp) (fun g hg => by simp [Value.ownBlock] at hg; omega)
set_option maxHeartbeats 800000 in
theorem pairs_any (A : Option Addr) (n c : Nat) (l : List (Int × Int)) (w : World) (hn : l.length = n) (hc : n ≤ c) (hlen : n ≤ 9223372036854775807) (hA : PrsA w w.heap.size A l) :
    Calls Try.prog 41 #[.slice A n c] w fun e w' => ∃ A' c', e = .returned (.slice A' (l.take 18).length c') ∧ PrsA w' w'.heap.size A' (l.take 18) ∧ Below w.heap.size w w' := by
  have hm : (l.take 18).length = min n 18 := by rw [List.length_take, hn, Nat.min_comm]
  generalize hk : (l.take 18).length = k
  have HC := hide (clonePr_any A k c w.heap.size (l.take 18) w hk (by omega) (hA.take 18))
  have hkm : k = min n 18 := by omega
  clear hn hm hk
  rcases Nat.lt_or_ge 18 n with h7 | h7
  · obtain rfl : k = 18 := by omega
    clear hkm
    go_enter Try.func41, Try.ntmps41
    go_wp2_with (go_at_call 68; refine (HC.out).mono ?_; rintro e w' ⟨A', c', rfl, h1, h2⟩; have H1 := hide h1; have H2 := hide h2; clear h1 h2)
    go_ret
    exact ⟨A', c', rfl, H1.out, H2.out⟩
  · obtain rfl : n = k := by omega
    clear hkm
    go_enter Try.func41, Try.ntmps41
    go_wp2_with (go_at_call 68; refine (HC.out).mono ?_; rintro e w' ⟨A', c', rfl, h1, h2⟩; have H1 := hide h1; have H2 := hide h2; clear h1 h2)
    go_ret
    exact ⟨A', c', rfl, H1.out, H2.out⟩
end Go.Proofs.Ytiadineakhcclaa

/-
  dates: befores.
-/
namespace Go.Proofs.Ytiadineakhcclaa
open Go.RowKit Go.Deep
set_option linter.unusedVariables false
set_option linter.unusedSimpArgs false

/-- The set of those that must be before job j. -/
def befB (P : List (Int × Int)) (n j : Nat) : Nat := maskF n fun x => P.any fun p => decide (p.1 = (x : Int) ∧ p.2 = (j : Int))
def befL (P : List (Int × Int)) (n : Nat) : List Nat := (List.range n).map (befB P n)
theorem befL_len (P : List (Int × Int)) (n : Nat) : (befL P n).length = n := by simp [befL]
theorem befL_getD {P : List (Int × Int)} {n j : Nat} (hj : j < n) : (befL P n).getD j 0 = befB P n j := by
  rw [List.getD_eq_getElem?_getD]; simp [befL, hj]
theorem befB_lt (P : List (Int × Int)) (n j : Nat) : befB P n j < 2 ^ n := maskF_lt _ _
theorem befB_snoc {P : List (Int × Int)} {n j x y : Nat} (hx : x < n) : befB (P ++ [((x : Int), (y : Int))]) n j = if j = y then befB P n j ||| 2 ^ x else befB P n j := by
  apply Nat.eq_of_testBit_eq
  intro i
  have hl : (befB (P ++ [((x : Int), (y : Int))]) n j).testBit i = (decide (i < n) && ((P.any fun p => decide (p.1 = (i : Int) ∧ p.2 = (j : Int))) || decide (x = i ∧ y = j))) := by
    unfold befB
    rw [testBit_maskF, List.any_append]
    congr 2
    simp only [List.any_cons, List.any_nil, Bool.or_false]
    congr 1
    rw [eq_iff_iff]
    show ((x : Int) = (i : Int) ∧ (y : Int) = (j : Int)) ↔ _
    omega
  rw [hl]
  by_cases e : j = y
  · rw [if_pos e, or_bit]
    unfold befB
    rw [testBit_maskF]
    by_cases h : x = i
    · subst h
      simp [e, hx]
    · simp [h]
  · rw [if_neg e]
    unfold befB
    rw [testBit_maskF]
    have : ¬ (x = i ∧ y = j) := fun h => e h.2.symm
    simp [this]
theorem befB_take {P : List (Int × Int)} {n j k : Nat} {x y : Nat} (hk : k < P.length) (he : P.getD k (0, 0) = ((x : Int), (y : Int))) (hx : x < n) : befB (P.take (k + 1)) n j = if j = y then befB (P.take k) n j ||| 2 ^ x else befB (P.take k) n j := by
  rw [List.take_succ_eq_append_getElem hk, getD_cons_of (d := ((0 : Int), (0 : Int))) hk, he]
  exact befB_snoc hx
set_option maxRecDepth 100000 in
set_option maxHeartbeats 1600000 in
theorem befores_any (A : Option Addr) (n c : Nat) (PA : Option Addr) (m pc : Nat) (P : List (Int × Int)) (w : World) (h1n : 1 ≤ n) (h8 : n ≤ 8) (hm : P.length = m) (hmm : m ≤ 9223372036854775807) (hP : PrsA w w.heap.size PA P) :
    Calls Try.prog 66 #[.slice A n c, .slice PA m pc] w fun e w' => (okBef P n = false ∧ e = .returned (.tuple #[.slice none 0 0, .bool false]) ∨ okBef P n = true ∧ ∃ X c', e = .returned (.tuple #[.slice X n c', .bool true]) ∧ IntsA w' w'.heap.size X (up (befL P n)) ∧ (∀ b o, X = some ⟨b, o, none⟩ → w.heap.size ≤ b)) ∧ Below w.heap.size w w' := by
  have hmk := run_make_row' (P := Try.prog) 41 3 (.int .i64 0) 8 Try.underlying41 info_int rfl .i64 .i64 n (by omega) (by omega)
  obtain ⟨w1, hw1⟩ : ∃ w1, w1 = w.alloc (.cells (madeCells #[.int .i64 0] n) 3) := ⟨_, rfl⟩
  have HR1 : Hid (w1.rowIs w.heap.size 3 n (fun a => .int .i64 ((befB (P.take 0) n a : Nat) : Int))) := by
    subst hw1
    refine (World.rowIs_made w (.int .i64 0) n _).congr fun a ha => ?_
    have : befB (P.take 0) n a = 0 := by
      apply Nat.eq_of_testBit_eq
      intro i
      unfold befB
      rw [testBit_maskF]; simp
    rw [this]; rfl
  have HB1 : Hid (Below w.heap.size w w1) := by subst hw1; exact (Below.refl _ _).alloc (Nat.le_refl _) _
  have HM := hide hm
  have HP := hide hP
  have HBT := hide (fun (x l h : Int) (b : Bool) (w : World) (hb : b = decide (l ≤ x ∧ x ≤ h)) => between_any x l h b w hb)
  clear hm hP
  go_enter Try.func66, Try.ntmps66
  by_cases h16 : m ≤ 16
  · have h16b : ¬ (16 : Int) < (m : Int) := by omega
    go_wp2
    rw [← hw1]
    clear hw1 hmk
    go_loopw [17] (fun v wr => ∃ k : Nat, k ≤ m ∧ v = .int .i64 k ∧ Hid (prsOk (P.take k) n = true) ∧ Hid (wr.rowIs w.heap.size 3 n (fun a => .int .i64 ((befB (P.take k) n a : Nat) : Int))) ∧ Below w.heap.size w wr) (fun v _ => m - (intOf v).toNat)
    case atStart => exact ⟨0, Nat.zero_le _, rfl, hide (by simp [prsOk]), HR1, HB1.out⟩
    case round =>
      obtain ⟨k, hk, rfl, HO, HR, hb⟩ := hrel
      have HB := hide hb
      by_cases hlt : k < m
      · obtain ⟨bj, oj, x, y, rfl, hbj, hc0, hc1, hx⟩ := (HP.out.below hb).at_ (k := k) (by rw [HM.out]; exact hlt)
        have hkn : (k : Int) < (m : Int) := by omega
        have HX := hide hx.out
        clear hb hx
        by_cases hok : prOk n (x, y) = true
        · have HT : Hid (prsOk (P.take (k + 1)) n = true) := by show _ = _; rw [prsOk_take (by rw [HM.out]; exact hlt), HO.out, HX.out, hok]; rfl
          unfold prOk at hok
          rw [decide_eq_true_iff] at hok
          obtain ⟨h1, h2, h3, h4⟩ := hok
          simp only [] at h1 h2 h3 h4
          obtain ⟨x, rfl⟩ : ∃ i : Nat, x = i := ⟨x.toNat, by omega⟩
          obtain ⟨y, rfl⟩ : ∃ i : Nat, y = i := ⟨y.toNat, by omega⟩
          have hyn : y < n := by omega
          have hxn : x < n := by omega
          have hlr := HR.out.lt
          have hfz := HR.out.frozen y
          have hcr := HR.out.cell hyn
          obtain ⟨M, hM⟩ : ∃ M, M = befB (P.take k) n y := ⟨_, rfl⟩
          have hM8 : M < 256 := by rw [hM]; exact Nat.lt_of_lt_of_le (befB_lt _ _ _) (pow256 h8)
          rw [← hM] at hcr
          have hk62 : x < 62 := by omega
          have hor : bits BinOp.or IntKind.i64 (M : Int) (wrap64 (2 ^ x)) = ((M ||| 2 ^ x : Nat) : Int) := by rw [shl_one x (by omega)]; exact bor_nat M _ (by omega) (Nat.pow_lt_pow_right (by decide) hk62)
          have HMH := hide hM
          have HBD := hide (fun q o => (below_drewN (HB.out.alloc HB.out.size o) q))
          have HTK := hide (fun j => befB_take (n := n) (j := j) (by rw [HM.out]; exact hlt) HX.out hxn)
          clear hM
          rcases Nat.lt_trichotomy x y with hxy | hxy | hxy
          · have hxy2 : ¬ y < x := by omega
            go_wp2_with (first
              | (go_at_call 76; (with_reducible refine (HBT.out _ _ _ true _ (by symm; exact decide_eq_true (by omega))).mono ?_); rintro e w2 ⟨rfl, rfl⟩)
              | (go_at_call 76; (with_reducible refine (HBT.out _ _ _ false _ (by symm; exact decide_eq_false (by omega))).mono ?_); rintro e w2 ⟨rfl, rfl⟩))
            go_region
            go_wp2
            go_roundw
            case rel =>
              refine ⟨k + 1, by omega, by go_num, HT, hide ((((HR.out.set y _).alloc _).drew).congr fun a ha => ?_), ((HB.out.setCell (p := ⟨w.heap.size, y, none⟩) (Nat.le_refl _) _).alloc (by have := HB.out.size; simpa using this) _).drew⟩
              show (if a = y then Value.int .i64 ((M ||| 2 ^ x : Nat) : Int) else Value.int .i64 ((befB (P.take k) n a : Nat) : Int)) = Value.int .i64 ((befB (P.take (k + 1)) n a : Nat) : Int)
              rw [HTK.out a]
              by_cases e : a = y
              · rw [if_pos e, if_pos e, e, HMH.out]
              · rw [if_neg e, if_neg e]
            case measure => simp [intOf] <;> omega
          · have hxy2 : ¬ y < x ∧ ¬ x < y := by omega
            clear hxy
            go_wp2_with (first
              | (go_at_call 76; (with_reducible refine (HBT.out _ _ _ true _ (by symm; exact decide_eq_true (by omega))).mono ?_); rintro e w2 ⟨rfl, rfl⟩)
              | (go_at_call 76; (with_reducible refine (HBT.out _ _ _ false _ (by symm; exact decide_eq_false (by omega))).mono ?_); rintro e w2 ⟨rfl, rfl⟩))
            go_region
            go_wp2
            go_roundw
            case rel =>
              refine ⟨k + 1, by omega, by go_num, HT, hide ((((HR.out.set y _).alloc _).drew).congr fun a ha => ?_), ((HB.out.setCell (p := ⟨w.heap.size, y, none⟩) (Nat.le_refl _) _).alloc (by have := HB.out.size; simpa using this) _).drew⟩
              show (if a = y then Value.int .i64 ((M ||| 2 ^ x : Nat) : Int) else Value.int .i64 ((befB (P.take k) n a : Nat) : Int)) = Value.int .i64 ((befB (P.take (k + 1)) n a : Nat) : Int)
              rw [HTK.out a]
              by_cases e : a = y
              · rw [if_pos e, if_pos e, e, HMH.out]
              · rw [if_neg e, if_neg e]
            case measure => simp [intOf] <;> omega
          · have hxy2 : ¬ x < y := by omega
            go_wp2_with (first
              | (go_at_call 76; (with_reducible refine (HBT.out _ _ _ true _ (by symm; exact decide_eq_true (by omega))).mono ?_); rintro e w2 ⟨rfl, rfl⟩)
              | (go_at_call 76; (with_reducible refine (HBT.out _ _ _ false _ (by symm; exact decide_eq_false (by omega))).mono ?_); rintro e w2 ⟨rfl, rfl⟩))
            go_region
            go_wp2
            go_roundw
            case rel =>
              refine ⟨k + 1, by omega, by go_num, HT, hide ((((HR.out.set y _).alloc _).drew).congr fun a ha => ?_), ((HB.out.setCell (p := ⟨w.heap.size, y, none⟩) (Nat.le_refl _) _).alloc (by have := HB.out.size; simpa using this) _).drew⟩
              show (if a = y then Value.int .i64 ((M ||| 2 ^ x : Nat) : Int) else Value.int .i64 ((befB (P.take k) n a : Nat) : Int)) = Value.int .i64 ((befB (P.take (k + 1)) n a : Nat) : Int)
              rw [HTK.out a]
              by_cases e : a = y
              · rw [if_pos e, if_pos e, e, HMH.out]
              · rw [if_neg e, if_neg e]
            case measure => simp [intOf] <;> omega
        · have HF : Hid (okBef P n = false) := hide (okBef_false (by rw [HM.out]; exact hlt) (by rw [HX.out]; simpa using hok))
          unfold prOk at hok
          rw [decide_eq_true_iff] at hok
          simp only [] at hok
          by_cases hmn : (0 ≤ x ∧ 0 ≤ y) ∧ (x < n ∨ y < n)
          · go_wp2_with (first
              | (go_at_call 76; (with_reducible refine (HBT.out _ _ _ true _ (by symm; exact decide_eq_true (by omega))).mono ?_); rintro e w2 ⟨rfl, rfl⟩)
              | (go_at_call 76; (with_reducible refine (HBT.out _ _ _ false _ (by symm; exact decide_eq_false (by omega))).mono ?_); rintro e w2 ⟨rfl, rfl⟩))
            all_goals (go_ret2; exact ⟨.inl ⟨HF.out, rfl⟩, HB.out.alloc HB.out.size _⟩)
          · go_wp2_with (first
              | (go_at_call 76; (with_reducible refine (HBT.out _ _ _ true _ (by symm; exact decide_eq_true (by omega))).mono ?_); rintro e w2 ⟨rfl, rfl⟩)
              | (go_at_call 76; (with_reducible refine (HBT.out _ _ _ false _ (by symm; exact decide_eq_false (by omega))).mono ?_); rintro e w2 ⟨rfl, rfl⟩))
            all_goals (go_ret2; exact ⟨.inl ⟨HF.out, rfl⟩, HB.out.alloc HB.out.size _⟩)
      · obtain rfl : m = k := by omega
        have HOK : Hid (okBef P n = true) := by
          have h := HO.out
          rw [List.take_of_length_le (by rw [HM.out]; exact Nat.le_refl _)] at h
          show _ = _; rw [okBef, h, HM.out, decide_eq_true h16]; rfl
        rw [List.take_of_length_le (by rw [HM.out]; exact Nat.le_refl _)] at HR
        have HI : Hid (IntsA wr wr.heap.size (some ⟨w.heap.size, 0, none⟩) (up (befL P n))) := hide (ints_of_row HR.out (by rw [up_length, befL_len]) (fun i hi => by rw [up_getD, befL_getD hi]))
        clear hb
        go_wp2
        go_ret2
        exact ⟨.inr ⟨HOK.out, _, n, rfl, HI.out, fun b o e => by injection e with e; injection e with e; omega⟩, HB.out⟩
  · have h16b : (16 : Int) < (m : Int) := by omega
    have HNO : Hid (okBef P n = false) := by show _ = _; rw [okBef, HM.out, decide_eq_false h16, Bool.and_false]
    go_wp2
    rw [← hw1]
    clear hw1 hmk
    go_ret2
    exact ⟨.inl ⟨HNO.out, rfl⟩, HB1.out⟩
theorem befores_no (A : Option Addr) (n c : Nat) (PA : Option Addr) (m pc : Nat) (P : List (Int × Int)) (w : World) (h1n : 1 ≤ n) (h8 : n ≤ 8) (hm : P.length = m) (hmm : m ≤ 9223372036854775807) (hP : PrsA w w.heap.size PA P) (ho : okBef P n = false) :
    Calls Try.prog 66 #[.slice A n c, .slice PA m pc] w fun e w' => e = .returned (.tuple #[.slice none 0 0, .bool false]) ∧ Below w.heap.size w w' :=
  (befores_any A n c PA m pc P w h1n h8 hm hmm hP).mono fun e w' ⟨h, hb⟩ => ⟨(by
    rcases h with h | h
    · exact h.2
    · rw [ho] at h; exact absurd h.1 (by decide)), hb⟩
theorem befores_yes (A : Option Addr) (n c : Nat) (PA : Option Addr) (m pc : Nat) (P : List (Int × Int)) (w : World) (h1n : 1 ≤ n) (h8 : n ≤ 8) (hm : P.length = m) (hmm : m ≤ 9223372036854775807) (hP : PrsA w w.heap.size PA P) (ho : okBef P n = true) :
    Calls Try.prog 66 #[.slice A n c, .slice PA m pc] w fun e w' => ∃ X c', e = .returned (.tuple #[.slice X n c', .bool true]) ∧ IntsA w' w'.heap.size X (up (befL P n)) ∧ (∀ b o, X = some ⟨b, o, none⟩ → w.heap.size ≤ b) ∧ Below w.heap.size w w' :=
  (befores_any A n c PA m pc P w h1n h8 hm hmm hP).mono fun e w' ⟨h, hb⟩ => by
    rcases h with h | ⟨_, X, c', h1, h2, h3⟩
    · rw [ho] at h; exact absurd h.1 (by decide)
    · exact ⟨X, c', h1, h2, h3, hb⟩
end Go.Proofs.Ytiadineakhcclaa

/-
  dates (plain): the greatest delay of a row, in both forms; orders that keep the befores.
-/
namespace Go.Proofs.Ytiadineakhcclaa
open Go.RowKit
set_option linter.unusedVariables false
set_option linter.unusedSimpArgs false

theorem rowAt_bd {L : List J4} (hL : JobsOk L) {o : List Int} (ho : ∀ x ∈ o, 0 ≤ x ∧ x < (L.length : Int)) : ∀ k, k ≤ o.length → 0 ≤ rowAt L o k ∧ rowAt L o k ≤ 20 * k
  | 0, _ => ⟨Int.le_refl _, by simp [rowAt]⟩
  | k + 1, hk => by
      have h1 := rowAt_bd hL ho k (by omega)
      have h2 := ho (o.getD k 0) (by rw [← getD_cons_of (d := (0 : Int)) (by omega)]; exact List.getElem_mem _)
      have h3 := hL.at_ (o.getD k 0).toNat (by omega)
      rw [rowAt]; push_cast; omega
theorem rowTo_bd {L : List J4} (hL : JobsOk L) {o : List Int} (ho : ∀ x ∈ o, 0 ≤ x ∧ x < (L.length : Int)) : ∀ k, k ≤ o.length → ∀ j, 0 ≤ (rowTo L o k).getD j 0 ∧ (rowTo L o k).getD j 0 ≤ 20 * k
  | 0, _, j => by
      rw [rowTo, List.getD_eq_getElem?_getD, List.getElem?_replicate]
      split <;> simp
  | k + 1, hk, j => by
      have h1 := rowTo_bd hL ho k (by omega) j
      have h2 := rowAt_bd hL ho (k + 1) hk
      have h3 := ho (o.getD k 0) (by rw [← getD_cons_of (d := (0 : Int)) (by omega)]; exact List.getElem_mem _)
      rw [rowTo, getD_set_i _ _ _ _ _ (by rw [rowTo_len]; omega)]
      split
      · exact h2
      · push_cast; omega
theorem rdelTo_le {L : List J4} {e : List Int} {v : Int} : ∀ k, rdelTo L e k ≤ v ↔ -1073741824 ≤ v ∧ ∀ j, j < k → e.getD j 0 - (L.getD j j0).d ≤ v
  | 0 => by
      rw [rdelTo]
      exact ⟨fun h => ⟨h, fun j hj => by omega⟩, fun h => h.1⟩
  | k + 1 => by
      have ih := rdelTo_le (L := L) (e := e) (v := v) k
      rw [rdelTo]
      constructor
      · intro h
        obtain ⟨h1, h2⟩ := ih.1 (by omega)
        exact ⟨h1, fun j hj => by
          by_cases e : j = k
          · subst e; omega
          · exact h2 j (by omega)⟩
      · rintro ⟨h1, h2⟩
        have h3 := ih.2 ⟨h1, fun j hj => h2 j (by omega)⟩
        have h4 := h2 k (by omega)
        omega
theorem rowAt_up (L : List J4) (b : List Nat) : ∀ k, k ≤ b.length → rowAt L (up b) k = timeL L (b.take k)
  | 0, _ => by rw [List.take_zero]; rfl
  | k + 1, h => by
      have e : (up b).getD k 0 = ((b.getD k 0 : Nat) : Int) := up_getD b k
      rw [rowAt, rowAt_up L b k (by omega), e, Int.toNat_natCast, List.take_succ_eq_append_getElem (by omega), time_snoc, getD_cons_of (d := 0) (by omega)]
theorem late_le {L : List J4} {v : Int} : ∀ (b : List Nat) (a : Int), lateOf L a b ≤ v ↔ -1000 ≤ v ∧ ∀ k, k < b.length → a + timeL L (b.take (k + 1)) - (L.getD (b.getD k 0) j0).d ≤ v
  | [], a => ⟨fun h => ⟨h, fun k hk => absurd hk (by simp)⟩, fun h => h.1⟩
  | i :: r, a => by
      have ih := late_le (L := L) (v := v) r (a + (L.getD i j0).t)
      rw [lateOf]
      constructor
      · intro h
        obtain ⟨h1, h2⟩ := ih.1 (by omega)
        refine ⟨h1, fun k hk => ?_⟩
        match k, hk with
        | 0, _ => show a + (_ + (0 : Int)) - _ ≤ v; rw [Int.add_zero]; show a + (L.getD i j0).t - (L.getD i j0).d ≤ v; omega
        | k + 1, hk =>
          have h3 := h2 k (by simpa using hk)
          show a + ((L.getD i j0).t + timeL L (r.take (k + 1))) - (L.getD ((i :: r).getD (k + 1) 0) j0).d ≤ v
          rw [show (i :: r).getD (k + 1) 0 = r.getD k 0 by simp]
          omega
      · rintro ⟨h1, h2⟩
        have h3 := h2 0 (by simp)
        have h3' : a + ((L.getD i j0).t + (0 : Int)) - (L.getD i j0).d ≤ v := h3
        have h4 := ih.2 ⟨h1, fun k hk => by
          have h5 := h2 (k + 1) (by simpa using hk)
          have h5' : a + ((L.getD i j0).t + timeL L (r.take (k + 1))) - (L.getD ((i :: r).getD (k + 1) 0) j0).d ≤ v := h5
          rw [show (i :: r).getD (k + 1) 0 = r.getD k 0 by simp] at h5'
          omega⟩
        omega
theorem late_eq {L : List J4} (hL : JobsOk L) {b : List Nat} (ho : ordB (up b) L.length = true) : rdelTo L (rowN L (up b)) L.length = lateOf L 0 b := by
  obtain ⟨h1, h2, h3⟩ := ordB_iff.1 ho
  have hl : b.length = L.length := by rw [← h1, up_length]
  have hpos := hL.pos
  have hmem : ∀ k, k < b.length → b.getD k 0 < L.length := fun k hk => by
    have := h2 ((up b).getD k 0) (by rw [← getD_cons_of (d := (0 : Int)) (by rw [up_length]; exact hk)]; exact List.getElem_mem _)
    rw [up_getD] at this; omega
  have hat : ∀ k, k < b.length → (rowN L (up b)).getD (b.getD k 0) 0 = timeL L (b.take (k + 1)) := fun k hk => by
    have h4 := rowTo_at (L := L) h2 (ord_ne ho) (up b).length (Nat.le_refl _) k (by rw [up_length]; exact hk)
    rw [up_getD, Int.toNat_natCast] at h4
    rw [rowN, h4, rowAt_up L b (k + 1) (by omega)]
  have hX := (rdelTo_le (L := L) (e := rowN L (up b)) (v := rdelTo L (rowN L (up b)) L.length) L.length).1 (Int.le_refl _)
  have hY := (late_le (L := L) (v := lateOf L 0 b) b 0).1 (Int.le_refl _)
  apply Int.le_antisymm
  · refine (rdelTo_le L.length).2 ⟨by omega, fun j hj => ?_⟩
    obtain ⟨k, hk, e⟩ := List.mem_iff_getElem.1 (h3 j hj)
    have hkb : k < b.length := by rw [up_length] at hk; exact hk
    rw [getD_cons_of (d := (0 : Int)) hk, up_getD] at e
    have e2 : b.getD k 0 = j := by omega
    have h4 := hY.2 k hkb
    have h5 := hat k hkb
    rw [e2] at h4 h5
    rw [h5]; omega
  · refine (late_le b 0).2 ⟨?_, fun k hk => ?_⟩
    · have h4 := hX.2 0 hpos
      have h5 := rowTo_bd hL h2 (up b).length (Nat.le_refl _) 0
      have h6 := hL.at_ 0 hpos
      unfold rowN at h4 ⊢
      omega
    · have h4 := hX.2 (b.getD k 0) (hmem k hk)
      rw [hat k hk] at h4
      omega
/-! An order that keeps the befores. -/
theorem okO_ord {L : List J4} {B : Nat → Nat} {b : List Nat} (h : Begun L B b) (hl : b.length = L.length) : ordB (up b) L.length = true := by
  have hmem : ∀ (b : List Nat) (S : Nat), okO L.length B S b → ∀ x ∈ b, x < L.length := fun b => by
    induction b with
    | nil => intro S _ x hx; cases hx
    | cons i r ih =>
      rintro S ⟨h1, _, h3⟩ x hx
      rcases List.mem_cons.1 hx with rfl | hx
      · exact h1
      · exact ih _ h3 x hx
  have hfull : maskL b = 2 ^ L.length - 1 := (card_full h.lt).1 (by rw [h.card, hl])
  have hbits : ∀ (b : List Nat) (S x : Nat), (b.foldl (fun m i => m ||| 2 ^ i) S).testBit x = (S.testBit x || b.contains x) := fun b => by
    induction b with
    | nil => intro S x; simp
    | cons i r ih =>
      intro S x
      rw [List.foldl_cons, ih, or_bit, List.contains_cons]
      by_cases e : i = x
      · subst e; simp
      · have e2 : (x == i) = false := by simp; omega
        rw [e2, decide_eq_false e]; simp
  rw [ordB_iff]
  refine ⟨by rw [up_length, hl], fun x hx => ?_, fun x hx => ?_⟩
  · obtain ⟨y, hy, rfl⟩ := List.mem_map.1 (show x ∈ List.map _ _ from hx)
    have := hmem b 0 h.ok y hy
    show 0 ≤ ((y : Nat) : Int) ∧ ((y : Nat) : Int) < _
    omega
  · have h4 := hbits b 0 x
    have h5 : (maskL b).testBit x = true := by rw [hfull, Nat.testBit_two_pow_sub_one, decide_eq_true hx]
    rw [maskL] at h5
    rw [h5, Nat.zero_testBit, Bool.false_or] at h4
    have : x ∈ b := by simpa using h4.symm
    exact List.mem_map.2 ⟨x, this, rfl⟩
/-- The reference's may. -/
theorem may_iff {P : List (Int × Int)} {n S j : Nat} (hP : prsOk P n = true) : mayB (befB P n) S j = (!S.testBit j && P.all fun p => !(decide (p.2 = (j : Int))) || S.testBit p.1.toNat) := by
  unfold mayB
  congr 1
  rw [Bool.eq_iff_iff, decide_eq_true_iff, List.all_eq_true]
  unfold prsOk at hP
  rw [List.all_eq_true] at hP
  constructor
  · intro h p hp
    have hpp := hP p hp
    unfold prOk at hpp
    rw [decide_eq_true_iff] at hpp
    by_cases e : p.2 = (j : Int)
    · have h1 : (sdiff (befB P n j) S).testBit p.1.toNat = false := by rw [h, Nat.zero_testBit]
      have h2 : (befB P n j).testBit p.1.toNat = true := by
        unfold befB
        rw [testBit_maskF, Bool.and_eq_true, decide_eq_true_iff, List.any_eq_true]
        exact ⟨by omega, p, hp, by rw [decide_eq_true_iff]; exact ⟨by omega, e⟩⟩
      rw [testBit_sdiff, h2, Bool.true_and] at h1
      simp at h1
      rw [h1]; simp
    · rw [decide_eq_false e]; rfl
  · intro h
    apply Nat.eq_of_testBit_eq
    intro x
    rw [testBit_sdiff, Nat.zero_testBit]
    cases hb : (befB P n j).testBit x with
    | false => rfl
    | true =>
      unfold befB at hb
      rw [testBit_maskF, Bool.and_eq_true, decide_eq_true_iff, List.any_eq_true] at hb
      obtain ⟨hx, p, hp, hq⟩ := hb
      rw [decide_eq_true_iff] at hq
      have h1 := h p hp
      rw [decide_eq_true hq.2, Bool.not_true, Bool.false_or, hq.1, Int.toNat_natCast] at h1
      rw [h1]; rfl
end Go.Proofs.Ytiadineakhcclaa

/-
  dates (plain): the jobs of a set, then the rest: an order.
-/
namespace Go.Proofs.Ytiadineakhcclaa
open Go.RowKit
set_option linter.unusedVariables false
set_option linter.unusedSimpArgs false

def fstL (S n : Nat) : List Nat := (List.range n).filter fun j => S.testBit j
def rstL (S n : Nat) : List Nat := (List.range n).filter fun j => !S.testBit j
theorem fstL_succ (S k : Nat) : fstL S (k + 1) = if S.testBit k = true then fstL S k ++ [k] else fstL S k := by
  unfold fstL
  rw [List.range_succ, List.filter_append]
  by_cases h : S.testBit k = true
  · rw [if_pos h]; simp [h]
  · rw [if_neg h]; simp [h]
theorem rstL_succ (S k : Nat) : rstL S (k + 1) = if S.testBit k = true then rstL S k else rstL S k ++ [k] := by
  unfold rstL
  rw [List.range_succ, List.filter_append]
  by_cases h : S.testBit k = true
  · rw [if_pos h]; simp [h]
  · rw [if_neg h]; simp [h]
theorem fstL_len (S : Nat) : ∀ n, (fstL S n).length = cardF n S
  | 0 => rfl
  | n + 1 => by
      rw [fstL_succ, cardF, ← fstL_len S n]
      split
      · simp
      · simp
theorem fst_rst (S : Nat) : ∀ n, (fstL S n).length + (rstL S n).length = n
  | 0 => rfl
  | n + 1 => by
      have := fst_rst S n
      rw [fstL_succ, rstL_succ]
      split
      · simp; omega
      · simp; omega
theorem mem_fstL {S n x : Nat} : x ∈ fstL S n ↔ x < n ∧ S.testBit x = true := by simp [fstL]
theorem mem_rstL {S n x : Nat} : x ∈ rstL S n ↔ x < n ∧ S.testBit x = false := by simp [rstL]
theorem fst_asc (S n : Nat) : ∀ a b, a < b → b < (fstL S n).length → (fstL S n).getD a 0 < (fstL S n).getD b 0 := by
  intro a b hab hb
  have h1 : (fstL S n).Pairwise (· < ·) := List.pairwise_lt_range.filter _
  rw [List.pairwise_iff_getElem] at h1
  have := h1 a b (by omega) hb hab
  rwa [getD_cons_of (d := 0), getD_cons_of (d := 0)] at this
theorem fst_at {S n k : Nat} (hk : k < (fstL S n).length) : (fstL S n).getD k 0 < n ∧ S.testBit ((fstL S n).getD k 0) = true := by
  have := List.getElem_mem hk
  rw [getD_cons_of (d := 0)] at this
  exact mem_fstL.1 this
/-- The jobs of a set in some order, then the rest. -/
theorem ord_part {key : Nat → Int} {S n q : Nat} {s : Nat → Nat} (hq : (fstL S n).length = q) (h : Sorted0 key (fun k => (fstL S n).getD k 0) s q q) : ordB (up ((List.range q).map s) ++ up (rstL S n)) n = true := by
  have hfr := fst_rst S n
  have hin : ∀ k, k < q → s k ∈ fstL S n := fun k hk => by
    obtain ⟨m, hm, e⟩ := h.low k hk
    rw [e]
    show (fstL S n).getD m 0 ∈ _
    rw [← getD_cons_of (d := 0) (by omega)]
    exact List.getElem_mem _
  have hinj : ∀ a b, a < q → b < q → s a = s b → a = b := fun a b ha hb e => by
    rcases Nat.lt_trichotomy a b with h1 | h1 | h1
    · have := h.sorted a b h1 hb; unfold ltK at this; rw [e] at this; omega
    · exact h1
    · have := h.sorted b a h1 ha; unfold ltK at this; rw [e] at this; omega
  have hnd : ((List.range q).map s).Nodup := by
    rw [List.nodup_iff_pairwise_ne, List.pairwise_map]
    refine List.Pairwise.imp_of_mem ?_ List.nodup_range
    intro a b ha hb hne e
    exact hne (hinj a b (List.mem_range.1 ha) (List.mem_range.1 hb) e)
  have hall : ∀ x, x ∈ fstL S n → x ∈ (List.range q).map s := fun x hx => by
    rcases Classical.em (x ∈ (List.range q).map s) with h1 | h1
    · exact h1
    · exfalso
      have h2 := List.Nodup.length_le_of_subset (List.nodup_cons.2 ⟨h1, hnd⟩) (l₂ := fstL S n) (fun y hy => by
        rcases List.mem_cons.1 hy with rfl | hy
        · exact hx
        · obtain ⟨a, ha, rfl⟩ := List.mem_map.1 hy
          exact hin a (List.mem_range.1 ha))
      simp at h2
      omega
  rw [ordB_iff]
  refine ⟨by simp [up]; omega, fun x hx => ?_, fun x hx => ?_⟩
  · rcases List.mem_append.1 hx with hx | hx
    · obtain ⟨y, hy, rfl⟩ := List.mem_map.1 (show x ∈ List.map _ _ from hx)
      obtain ⟨a, ha, rfl⟩ := List.mem_map.1 hy
      have := (mem_fstL.1 (hin a (List.mem_range.1 ha))).1
      show 0 ≤ ((s a : Nat) : Int) ∧ ((s a : Nat) : Int) < n
      omega
    · obtain ⟨y, hy, rfl⟩ := List.mem_map.1 (show x ∈ List.map _ _ from hx)
      have := (mem_rstL.1 hy).1
      show 0 ≤ ((y : Nat) : Int) ∧ ((y : Nat) : Int) < n
      omega
  · rw [List.mem_append]
    cases hb : S.testBit x with
    | true => exact .inl (List.mem_map.2 ⟨x, hall x (mem_fstL.2 ⟨hx, hb⟩), rfl⟩)
    | false => exact .inr (List.mem_map.2 ⟨x, mem_rstL.2 ⟨hx, hb⟩, rfl⟩)
theorem first_ontime {L : List J4} (hL : JobsOk L) {S q : Nat} {s : Nat → Nat} (hf : fitB L S = true) (hq : (fstL S L.length).length = q) (h : Sorted0 (due L) (fun k => (fstL S L.length).getD k 0) s q q) :
    ∀ k, k < q → s k < L.length ∧ (rowN L (up ((List.range q).map s) ++ up (rstL S L.length))).getD (s k) 0 ≤ (L.getD (s k) j0).d := by
  intro k hk
  have hin : ∀ k, k < q → s k < L.length ∧ S.testBit (s k) = true := fun k hk => by
    obtain ⟨m, hm, e⟩ := h.low k hk
    rw [e]
    exact fst_at (by omega)
  have hord := ord_part hq h
  have hfr := fst_rst S L.length
  obtain ⟨o, ho⟩ : ∃ o, up ((List.range q).map s) ++ up (rstL S L.length) = o := ⟨_, rfl⟩
  have hat : ∀ j, j < q → o.getD j 0 = (s j : Nat) := fun j hj => by
    rw [← ho, List.getD_eq_getElem?_getD, List.getElem?_append_left (by simp [up]; omega)]
    simp [up, hj]
  have hlen : o.length = L.length := by rw [← ho]; simp [up]; omega
  rw [ho] at hord ⊢
  have hoi := ordB_iff.1 hord
  refine ⟨(hin k hk).1, ?_⟩
  have h1 := rowTo_at (L := L) hoi.2.1 (ord_ne hord) o.length (Nat.le_refl _) k (by omega)
  rw [hat k hk, Int.toNat_natCast] at h1
  rw [rowN, h1]
  have h2 := first_work (fun i hi => by have := hL.at_ i hi; omega) h (fun k hk => fst_at (by omega)) hat hk
  rw [fitB, decide_eq_true_iff] at hf
  have h3 := hf (s k) (hin k hk).1 (hin k hk).2
  omega
/-- What is on time, as a set. -/
def timeS (L : List J4) (o : List Int) : Nat := maskF L.length fun j => decide ((rowN L o).getD j 0 ≤ (L.getD j j0).d)
theorem timeS_bit {L : List J4} {o : List Int} {j : Nat} (hj : j < L.length) : (timeS L o).testBit j = decide ((rowN L o).getD j 0 ≤ (L.getD j j0).d) := by
  rw [timeS, testBit_maskF]; simp [hj]
theorem timeS_fit {L : List J4} (hL : JobsOk L) {o : List Int} (ho : ordB o L.length = true) : fitB L (timeS L o) = true :=
  ontime_fits (fun i hi => by have := hL.at_ i hi; omega) ho fun j hj hb => by rw [timeS_bit hj] at hb; exact of_decide_eq_true hb
theorem timeS_most {L : List J4} (hL : JobsOk L) {o : List Int} (ho : ordB o L.length = true) : cardF L.length (timeS L o) ≤ cardF L.length (mostN L) := most_max hL.le (maskF_lt _ _) (timeS_fit hL ho)
theorem timeS_weigh {L : List J4} (hL : JobsOk L) {o : List Int} (ho : ordB o L.length = true) : wtN L (timeS L o) L.length ≤ wtN L (weighN L) L.length := weigh_max (maskF_lt _ _) (timeS_fit hL ho)
end Go.Proofs.Ytiadineakhcclaa

/-
  dates (plain): the order by Due has the least greatest delay; orders and befores.
-/
namespace Go.Proofs.Ytiadineakhcclaa
open Go.RowKit
set_option linter.unusedVariables false
set_option linter.unusedSimpArgs false

def B0 : Nat → Nat := fun _ => 0
theorem befB_nil (n : Nat) : ∀ j, befB [] n j = B0 j := fun j => by
  apply Nat.eq_of_testBit_eq
  intro i
  unfold befB B0
  rw [testBit_maskF]; simp
theorem mask_bits : ∀ (b : List Nat) (S x : Nat), (b.foldl (fun m i => m ||| 2 ^ i) S).testBit x = (S.testBit x || b.contains x)
  | [], S, x => by simp
  | i :: r, S, x => by
      rw [List.foldl_cons, mask_bits r, or_bit, List.contains_cons]
      by_cases e : i = x
      · subst e; simp
      · have e2 : (x == i) = false := by simp; omega
        rw [e2, decide_eq_false e]; simp
theorem maskL_bit (b : List Nat) (x : Nat) : (maskL b).testBit x = b.contains x := by
  rw [maskL, mask_bits, Nat.zero_testBit, Bool.false_or]
/-- An order, as numbers. -/
theorem ord_nat {o : List Int} {n : Nat} (h : ordB o n = true) : ∃ b : List Nat, o = up b ∧ b.length = n ∧ (∀ x ∈ b, x < n) ∧ b.Nodup ∧ ∀ x, x < n → x ∈ b := by
  obtain ⟨h1, h2, h3⟩ := ordB_iff.1 h
  have hb : up (o.map Int.toNat) = o := by
    unfold up
    rw [List.map_map]
    conv => rhs; rw [← List.map_id o]
    refine List.map_congr_left fun x hx => ?_
    have := (h2 x hx).1
    show ((x.toNat : Nat) : Int) = x
    omega
  refine ⟨o.map Int.toNat, hb.symm, by rw [List.length_map, h1], fun x hx => ?_, ?_, fun x hx => ?_⟩
  · obtain ⟨y, hy, rfl⟩ := List.mem_map.1 hx
    have := h2 y hy; omega
  · have hne := ord_ne h
    rw [List.nodup_iff_pairwise_ne, List.pairwise_iff_getElem]
    intro i j hi hj hij e
    rw [List.length_map] at hi hj
    have h4 := hne i j hij hj
    rw [← getD_cons_of (d := (0 : Int)) hi, ← getD_cons_of (d := (0 : Int)) hj] at h4
    rw [List.getElem_map, List.getElem_map] at e
    have h5 := h2 _ (List.getElem_mem hi)
    have h6 := h2 _ (List.getElem_mem hj)
    exact h4 (by omega)
  · exact List.mem_map.2 ⟨x, h3 x hx, by simp⟩
/-- An order in which each job comes behind what must be before it. -/
theorem okO_of {n : Nat} {B : Nat → Nat} : ∀ (b pre : List Nat), (∀ x ∈ b, x < n) → (pre ++ b).Nodup → (∀ k, k < b.length → sdiff (B (b.getD k 0)) (maskL (pre ++ b.take k)) = 0) → okO n B (maskL pre) b
  | [], _, _, _, _ => trivial
  | i :: r, pre, hb, hnd, hB => by
      refine ⟨hb i (by simp), ?_, ?_⟩
      · have h1 := hB 0 (by simp)
        have h1' : sdiff (B i) (maskL pre) = 0 := by simpa using h1
        have h2 : i ∉ pre := by
          intro hi
          rw [List.nodup_append] at hnd
          exact hnd.2.2 i hi i (by simp) rfl
        unfold mayB
        rw [h1', maskL_bit]
        simp [h2]
      · have h3 := okO_of r (pre ++ [i]) (fun x hx => hb x (by simp [hx])) (by rw [List.append_assoc]; exact hnd) (fun k hk => by
          have h4 := hB (k + 1) (by simp; omega)
          simpa using h4)
        rw [maskL_snoc] at h3
        exact h3
theorem okO_any {n : Nat} {b : List Nat} (hb : ∀ x ∈ b, x < n) (hnd : b.Nodup) : okO n B0 0 b :=
  okO_of b [] hb (by simpa using hnd) (fun k hk => by
    have : sdiff 0 (maskL ([] ++ b.take k)) = 0 := by unfold sdiff; simp
    exact this)
/-- Any order has no less than the least. -/
theorem worst0_le {L : List J4} (hL : JobsOk L) {b : List Nat} (ho : ordB (up b) L.length = true) : ∃ r, worstF L B0 L.length 0 = some r ∧ r ≤ lateOf L 0 b := by
  obtain ⟨b', h1, h2, h3, h4, h5⟩ := ord_nat ho
  have e : b = b' := by
    have : (up b).map Int.toNat = (up b').map Int.toNat := by rw [h1]
    simpa [up, List.map_map, Function.comp_def] using this
  subst e
  obtain ⟨r, h6, h7⟩ := low_worst (L := L) (B := B0) b 0 (okO_any h3 h4)
  rw [h2, atS_zero] at *
  exact ⟨r, h6, h7⟩
theorem ordB_range (n : Nat) : ordB (up (List.range n)) n = true := by
  rw [ordB_iff]
  refine ⟨by simp, fun x hx => ?_, fun x hx => ?_⟩
  · obtain ⟨y, hy, rfl⟩ := List.mem_map.1 (show x ∈ List.map _ _ from hx)
    have := List.mem_range.1 hy
    show 0 ≤ ((y : Nat) : Int) ∧ ((y : Nat) : Int) < _
    omega
  · exact List.mem_map.2 ⟨x, List.mem_range.2 hx, rfl⟩
theorem worst0_some {L : List J4} (hL : JobsOk L) : ∃ r, worstF L B0 L.length 0 = some r := by
  obtain ⟨r, h, _⟩ := worst0_le hL (ordB_range L.length)
  exact ⟨r, h⟩
/-- The greedy order is one, keeps the befores, and has the least. -/
theorem gr_begun {L : List J4} {B : Nat → Nat} : ∀ (b pre : List Nat), okO L.length B (maskL pre) b → Begun L B pre → Begun L B (pre ++ b)
  | [], pre, _, h => by rw [List.append_nil]; exact h
  | i :: r, pre, ⟨h1, h2, h3⟩, h => by
      have h4 := gr_begun r (pre ++ [i]) (by rw [maskL_snoc]; exact h3) (h.snoc h1 h2)
      rw [List.append_assoc] at h4
      exact h4
theorem gr_ord {L : List J4} (hL : JobsOk L) {B : Nat → Nat} {r : Int} (h : worstF L B L.length 0 = some r) : okO L.length B 0 (gr L B L.length 0 0 r) ∧ (gr L B L.length 0 0 r).length = L.length ∧ ordB (up (gr L B L.length 0 0 r)) L.length = true ∧ lateOf L 0 (gr L B L.length 0 0 r) = r := by
  have hb := worst_bd hL _ _ _ h
  obtain ⟨h1, h2, h3⟩ := gr_ok (L := L) (B := B) (v := r) hb.1 L.length 0 r h (Int.le_refl _)
  rw [atS_zero] at h1 h2 h3
  have hbg := gr_begun (L := L) (B := B) _ [] h1 (Begun.nil_ L B)
  rw [List.nil_append] at hbg
  obtain ⟨x, h4, h5⟩ := low_worst (L := L) (B := B) _ 0 h1
  rw [h2, h] at h4
  injection h4 with h4
  rw [atS_zero] at h5
  exact ⟨h1, h2, okO_ord hbg h2, by omega⟩
theorem worst_mono {L : List J4} (hL : JobsOk L) {B : Nat → Nat} {r r0 : Int} (h : worstF L B L.length 0 = some r) (h0 : worstF L B0 L.length 0 = some r0) : r0 ≤ r := by
  obtain ⟨h1, h2, h3, h4⟩ := gr_ord hL h
  obtain ⟨x, h5, h6⟩ := worst0_le hL h3
  rw [h0] at h5
  injection h5 with h5
  omega
/-- By Due: no more than any order. -/
theorem due_least {L : List J4} (hL : JobsOk L) {s : Nat → Nat} (hs : Sorted0 (due L) (fun k => (List.range L.length).getD k 0) s L.length L.length) {r0 : Int} (h0 : worstF L B0 L.length 0 = some r0) :
    ordB (up ((List.range L.length).map s)) L.length = true ∧ lateOf L 0 ((List.range L.length).map s) = r0 := by
  have hfull : fstL (2 ^ L.length - 1) L.length = List.range L.length := by
    unfold fstL
    rw [List.filter_eq_self]
    intro a ha
    rw [Nat.testBit_two_pow_sub_one]
    simpa using ha
  have hrest : rstL (2 ^ L.length - 1) L.length = [] := by
    unfold rstL
    rw [List.filter_eq_nil_iff]
    intro a ha
    rw [Nat.testBit_two_pow_sub_one]
    have := List.mem_range.1 ha
    simp [this]
  have hs2 : Sorted0 (due L) (fun k => (fstL (2 ^ L.length - 1) L.length).getD k 0) s L.length L.length := by rw [hfull]; exact hs
  have hord := ord_part (S := 2 ^ L.length - 1) (by rw [hfull]; simp) hs2
  rw [hrest, show up ([] : List Nat) = [] from rfl, List.append_nil] at hord
  refine ⟨hord, ?_⟩
  obtain ⟨x, h1, h2⟩ := worst0_le hL hord
  rw [h0] at h1
  injection h1 with h1
  subst h1
  apply Int.le_antisymm _ h2
  -- move all Dues by the least greatest delay: then all are on time
  obtain ⟨g1, g2, g3, g4⟩ := gr_ord hL h0
  obtain ⟨g, hg⟩ : ∃ g, g = gr L B0 L.length 0 0 r0 := ⟨_, rfl⟩
  rw [← hg] at g1 g2 g3 g4
  obtain ⟨L', hL'⟩ : ∃ L', L' = L.map fun j => (⟨j.t, j.r, j.d + r0, j.w⟩ : J4) := ⟨_, rfl⟩
  have hlen : L'.length = L.length := by rw [hL', List.length_map]
  have hget : ∀ i, i < L.length → (L'.getD i j0).t = (L.getD i j0).t ∧ (L'.getD i j0).d = (L.getD i j0).d + r0 := fun i hi => by
    have : L'.getD i j0 = (fun j => (⟨j.t, j.r, j.d + r0, j.w⟩ : J4)) (L.getD i j0) := by
      rw [hL', List.getD_eq_getElem?_getD, List.getElem?_map, List.getD_eq_getElem?_getD, List.getElem?_eq_getElem hi]; rfl
    rw [this]; exact ⟨rfl, rfl⟩
  have ht : ∀ i, i < L'.length → 0 ≤ (L'.getD i j0).t := fun i hi => by rw [hlen] at hi; rw [(hget i hi).1]; have := hL.at_ i hi; omega
  have hmemg : ∀ k, k < L.length → g.getD k 0 < L.length := fun k hk => by
    have := (ordB_iff.1 g3).2.1 ((up g).getD k 0) (by rw [← getD_cons_of (d := (0 : Int)) (by rw [up_length, g2]; exact hk)]; exact List.getElem_mem _)
    rw [up_getD] at this; omega
  have hrow : ∀ (o : List Int), ordB o L.length = true → ∀ k, k ≤ L.length → rowAt L' o k = rowAt L o k := fun o ho k => by
    induction k with
    | zero => intro _; rfl
    | succ k ih =>
      intro hk
      have h3 := (ordB_iff.1 ho).2.1 (o.getD k 0) (by rw [← getD_cons_of (d := (0 : Int)) (by rw [(ordB_iff.1 ho).1]; omega)]; exact List.getElem_mem _)
      rw [rowAt, rowAt, ih (by omega), (hget _ (by omega)).1]
  have hX := (late_le (L := L) (v := r0) g 0).1 (by rw [g4]; exact Int.le_refl _)
  have hfit : fitB L' (2 ^ L.length - 1) = true := by
    refine ontime_fits ht (o := up g) (by rw [hlen]; exact g3) fun j hj _ => ?_
    rw [hlen] at hj
    obtain ⟨k, hk, e⟩ := List.mem_iff_getElem.1 ((ordB_iff.1 g3).2.2 j hj)
    have hk' : k < g.length := by rw [up_length] at hk; exact hk
    rw [getD_cons_of (d := (0 : Int)) hk, up_getD] at e
    have e2 : g.getD k 0 = j := by omega
    have h4 := rowTo_at (L := L') (o := up g) (by rw [hlen]; exact (ordB_iff.1 g3).2.1) (ord_ne g3) (up g).length (Nat.le_refl _) k hk
    rw [up_getD, Int.toNat_natCast, e2] at h4
    rw [rowN, h4, hrow _ g3 _ (by omega), rowAt_up L g (k + 1) (by omega), (hget j hj).2]
    have h5 := hX.2 k hk'
    rw [e2] at h5
    omega
  have hs3 : Sorted0 (due L') (fun k => (fstL (2 ^ L.length - 1) L.length).getD k 0) s L.length L.length := by
    refine ⟨hs2.le, hs2.low, hs2.high, fun a b hab hb => ?_⟩
    have h6 := hs2.sorted a b hab hb
    have hsl : ∀ k, k < L.length → s k < L.length := fun k hk => by
      obtain ⟨m, hm, e⟩ := hs.low k hk
      rw [e]; simp [hm]
    unfold ltK due at h6 ⊢
    rw [(hget _ (hsl a (by omega))).2, (hget _ (hsl b hb)).2]
    omega
  refine (late_le _ 0).2 ⟨(worst_bd hL _ _ _ h0).1, fun k hk => ?_⟩
  rw [List.length_map, List.length_range] at hk
  have hsk : s k < L.length := by
    obtain ⟨m, hm, e⟩ := hs.low k hk
    rw [e]; simp [hm]
  have h7 := first_work ht (S := 2 ^ L.length - 1) (q := L.length) (s := s) (o := up ((List.range L.length).map s)) hs3 (fun k hk => by
    have := fst_at (S := 2 ^ L.length - 1) (n := L.length) (k := k) (by rw [hfull]; simpa using hk)
    rw [hlen]; exact this) (fun k hk => by rw [up_getD]; congr 1; rw [List.getD_eq_getElem?_getD]; simp [hk]) hk
  rw [hrow _ hord _ (by omega), rowAt_up L _ (k + 1) (by simp; omega)] at h7
  rw [fitB, decide_eq_true_iff] at hfit
  have h8 := hfit (s k) (by rw [hlen]; exact hsk) (by rw [Nat.testBit_two_pow_sub_one, decide_eq_true hsk])
  rw [(hget _ hsk).2] at h8
  have e9 : ((List.range L.length).map s).getD k 0 = s k := by rw [List.getD_eq_getElem?_getD]; simp [hk]
  rw [e9]
  omega
/-! Befores kept. -/
def keepB (P : List (Int × Int)) (o : List Int) : Bool := P.all fun p => decide (idx o p.1 < idx o p.2)
theorem okO_at {n : Nat} {B : Nat → Nat} : ∀ (b pre : List Nat), okO n B (maskL pre) b → ∀ k, k < b.length → mayB B (maskL (pre ++ b.take k)) (b.getD k 0) = true
  | [], _, _, k, hk => absurd hk (by simp)
  | i :: r, pre, ⟨h1, h2, h3⟩, k, hk => by
      match k, hk with
      | 0, _ => simpa using h2
      | k + 1, hk =>
        have := okO_at r (pre ++ [i]) (by rw [maskL_snoc]; exact h3) k (by simpa using hk)
        simpa using this
theorem place_at {b : List Nat} (hnd : b.Nodup) {k : Nat} (hk : k < b.length) : place b (b.getD k 0) = k := by
  have hmem : b.getD k 0 ∈ b := by rw [← getD_cons_of (d := 0) hk]; exact List.getElem_mem _
  obtain ⟨h1, h2⟩ := place_lt hmem
  obtain ⟨g, hg⟩ : ∃ g, g = b.getD k 0 := ⟨_, rfl⟩
  rw [← hg] at h1 h2 hmem ⊢
  rw [← getD_cons_of (d := 0) h1] at h2
  rw [← getD_cons_of (d := 0) hk] at hg
  have h2 := h2.trans hg
  have h3 := List.nodup_iff_pairwise_ne.1 hnd
  rw [List.pairwise_iff_getElem] at h3
  rcases Nat.lt_trichotomy (place b g) k with h | h | h
  · exact absurd h2 (h3 _ _ h1 hk h)
  · exact h
  · exact absurd h2.symm (h3 _ _ hk h1 h)
theorem mem_take_place {b : List Nat} (hnd : b.Nodup) {x k : Nat} (hx : x ∈ b) : x ∈ b.take k ↔ place b x < k := by
  obtain ⟨h1, h2⟩ := place_lt hx
  constructor
  · intro h
    obtain ⟨i, hi, e⟩ := List.mem_iff_getElem.1 h
    rw [List.length_take] at hi
    rw [List.getElem_take] at e
    have h3 := place_at hnd (k := i) (by omega)
    rw [← getD_cons_of (d := 0) (by omega), e] at h3
    omega
  · intro h
    rw [List.mem_iff_getElem]
    refine ⟨place b x, by rw [List.length_take]; omega, ?_⟩
    rw [List.getElem_take, getD_cons_of (d := 0) h1, h2]
theorem keeps_of {n : Nat} {P : List (Int × Int)} {b : List Nat} (hP : prsOk P n = true) (hnd : b.Nodup) (hall : ∀ x, x < n → x ∈ b) (h : okO n (befB P n) 0 b) : keepB P (up b) = true := by
  unfold keepB
  rw [List.all_eq_true]
  intro p hp
  unfold prsOk at hP
  rw [List.all_eq_true] at hP
  have hpp := hP p hp
  unfold prOk at hpp
  rw [decide_eq_true_iff] at hpp
  obtain ⟨x, hx⟩ : ∃ x : Nat, p.1 = x := ⟨p.1.toNat, by omega⟩
  obtain ⟨y, hy⟩ : ∃ y : Nat, p.2 = y := ⟨p.2.toNat, by omega⟩
  have hxm := hall x (by omega)
  have hym := hall y (by omega)
  obtain ⟨h1, h2⟩ := place_lt hym
  have h3 := okO_at b [] h (place b y) h1
  rw [h2, List.nil_append] at h3
  unfold mayB at h3
  rw [Bool.and_eq_true, decide_eq_true_iff] at h3
  have h4 : (sdiff (befB P n y) (maskL (b.take (place b y)))).testBit x = false := by rw [h3.2, Nat.zero_testBit]
  have h5 : (befB P n y).testBit x = true := by
    unfold befB
    rw [testBit_maskF, Bool.and_eq_true, decide_eq_true_iff, List.any_eq_true]
    exact ⟨by omega, p, hp, by rw [decide_eq_true_iff]; exact ⟨hx, hy⟩⟩
  rw [testBit_sdiff, h5, Bool.true_and, maskL_bit] at h4
  simp at h4
  have h6 := (mem_take_place hnd hxm).1 h4
  rw [hx, hy, idx_up_mem hxm, idx_up_mem hym, decide_eq_true_iff]
  omega
theorem okO_keeps {n : Nat} {P : List (Int × Int)} {b : List Nat} (hb : ∀ x ∈ b, x < n) (hnd : b.Nodup) (hall : ∀ x, x < n → x ∈ b) (h : keepB P (up b) = true) : okO n (befB P n) 0 b := by
  refine okO_of b [] hb (by simpa using hnd) fun k hk => ?_
  rw [List.nil_append]
  apply Nat.eq_of_testBit_eq
  intro x
  rw [testBit_sdiff, Nat.zero_testBit, maskL_bit]
  cases hbt : (befB P n (b.getD k 0)).testBit x with
  | false => rfl
  | true =>
    unfold befB at hbt
    rw [testBit_maskF, Bool.and_eq_true, decide_eq_true_iff, List.any_eq_true] at hbt
    obtain ⟨hxn, p, hp, hq⟩ := hbt
    rw [decide_eq_true_iff] at hq
    unfold keepB at h
    rw [List.all_eq_true] at h
    have h1 := h p hp
    have hym : b.getD k 0 ∈ b := by rw [← getD_cons_of (d := 0) hk]; exact List.getElem_mem _
    have hxm := hall x hxn
    rw [decide_eq_true_iff, hq.1, hq.2, idx_up_mem hxm, idx_up_mem hym, place_at hnd hk] at h1
    have h2 := (mem_take_place (k := k) hnd hxm).2 (by omega)
    simp [h2]
/-- What the statement asks of an order that keeps the befores. -/
theorem keep_worst {L : List J4} (hL : JobsOk L) {P : List (Int × Int)} {o : List Int} (ho : ordB o L.length = true) (hk : keepB P o = true) : ∃ r, worstF L (befB P L.length) L.length 0 = some r ∧ r ≤ rdelTo L (rowN L o) L.length := by
  obtain ⟨b, rfl, h2, h3, h4, h5⟩ := ord_nat ho
  obtain ⟨r, h6, h7⟩ := low_worst (L := L) (B := befB P L.length) b 0 (okO_keeps h3 h4 h5 hk)
  rw [h2] at h6
  rw [atS_zero] at h7
  rw [late_eq hL ho]
  exact ⟨r, h6, h7⟩
theorem gr_keeps {L : List J4} (hL : JobsOk L) {P : List (Int × Int)} (hP : prsOk P L.length = true) {r : Int} (h : worstF L (befB P L.length) L.length 0 = some r) : keepB P (up (gr L (befB P L.length) L.length 0 0 r)) = true := by
  obtain ⟨h1, h2, h3, _⟩ := gr_ord hL h
  obtain ⟨b, e, k2, k3, k4, k5⟩ := ord_nat h3
  have e2 : gr L (befB P L.length) L.length 0 0 r = b := by
    have : (up (gr L (befB P L.length) L.length 0 0 r)).map Int.toNat = (up b).map Int.toNat := by rw [e]
    simpa [up, List.map_map, Function.comp_def] using this
  rw [e2] at h1 ⊢
  exact keeps_of hP k4 k5 h1
end Go.Proofs.Ytiadineakhcclaa

/-
  The statements' own conversions: Of, own, pieces.
-/
namespace Go.Proofs.Ytiadineakhcclaa
open Go.RowKit Go.Deep
set_option linter.unusedVariables false
set_option linter.unusedSimpArgs false

theorem info_of : (Try.prog.info? 48).map (fun i => (i.zero, i.size, i.bytes)) = some (some (.agg #[.int .i64 0, .int .i64 0, .int .i64 0, .int .i64 0]), 4, 32) := by kernel_rfl
set_option maxRecDepth 100000 in
set_option maxHeartbeats 1600000 in
theorem of_any (A : Option Addr) (n c : Nat) (L : List J4) (w : World) (hn : L.length = n) (hlen : n ≤ 9223372036854775807) (hA : JobsA w w.heap.size A L) :
    Calls Try.prog 18 #[.slice A n c] w fun e w' => ∃ X k c', e = .returned (.slice X k c') ∧ (L.take 10).length = k ∧ k ≤ c' ∧ w'.ownsRow w.heap.size 48 4 (.slice X k c') k (jcells (L.take 10)) ∧ Below w.heap.size w w' := by
  have HN := hide hn
  have HA := hide hA
  clear hn hA
  go_enter Try.func18, Try.ntmps18
  go_wp2
  go_loopw [3, 8] (fun v i wr => ∃ (k j c' : Nat) (X : Option Addr), k ≤ n ∧ i = .int .i64 k ∧ v = .slice X j c' ∧ j ≤ c' ∧ j ≤ k ∧ j ≤ 10 ∧ Hid (((L.take 10).take k).length = j) ∧ Hid (wr.ownsRow w.heap.size 48 4 (.slice X j c') j (jcells ((L.take 10).take k))) ∧ Below w.heap.size w wr) (fun _ i _ => n - (intOf i).toNat)
  case atStart => exact ⟨0, 0, 0, none, Nat.zero_le _, rfl, rfl, Nat.le_refl _, Nat.le_refl _, by omega, hide (by simp), hide (by rw [List.take_zero]; exact World.ownsRow_nil _ _ _ _), Below.refl _ _⟩
  case round =>
    obtain ⟨k, j, c', X, hk, rfl, rfl, hjc, hjk, hj9, HL, HOW, hbel⟩ := hrel
    have HB := hide hbel
    by_cases hlt : k < n
    · obtain ⟨bj, oj, t, r, d, u, rfl, hbj, hc0, hc1, hc2, hc3,hx⟩ := (HA.out.below hbel).at_ (k := k) (by rw [HN.out]; exact hlt)
      have HX := hide hx.out
      have hkn : (k : Int) < (n : Int) := by omega
      have HBA : Hid (∀ o, Below w.heap.size w (wr.alloc o)) := fun o => HB.out.alloc HB.out.size _
      clear hbel hx
      by_cases h10 : k < 10
      · have h10' : (k : Int) < 10 := by omega
        have hj10 : j < 10 := by have := HL.out; rw [List.length_take, List.length_take, HN.out] at this; omega
        have hone : ∀ y9 ∈ ([.int .i64 t, .int .i64 r, .int .i64 d, .int .i64 u] : List Value), y9.oneCell' = true := by intro y9 hu; simp at hu; rcases hu with rfl | rfl | rfl | rfl <;> rfl
        have HST : Hid ((L.take 10).take (k + 1) = ((L.take 10).take k) ++ [⟨t, r, d, u⟩]) := by
          rw [List.take_succ_eq_append_getElem (by rw [List.length_take, HN.out]; omega)]
          congr 1
          rw [List.getElem_take, getD_cons_of (d := j0) (by rw [HN.out]; omega), HX.out]
        go_wp2_with (at_builtin; refine wpList_appS (w0 := wr.alloc (.cells #[.int .i64 t, .int .i64 r, .int .i64 d, .int .i64 u] 43)) _ _ 27 48 (.agg #[.int .i64 0, .int .i64 0, .int .i64 0, .int .i64 0]) 4 32 rfl rfl Try.underlying27 info_of rfl (by decide) w.heap.size (.slice X j c') j (jcells ((L.take 10).take k)) [.int .i64 t, .int .i64 r, .int .i64 d, .int .i64 u] rfl rfl (by simp [Act.eval]) rfl ⟨_, rfl⟩ (HOW.out.alloc _) hone (by omega) (by omega) (HBA.out _).size ?_; intro ga cg w7 hown1 hd1 hd2 hg1 hgl2 hgrow; have HOW7 := hide hown1; have HG := hide hgrow; clear hown1 hgrow)
        go_roundw
        case rel =>
          refine ⟨k + 1, j + 1, cg, some ⟨ga, 0, none⟩, by omega, by go_num, rfl, hd1, by omega, by omega, hide ?_, hide ?_, (HBA.out _).grown HG.out (HBA.out _).size (fun q hq => (own_ltS HOW.out q hq).1)⟩
          · rw [HST.out, List.length_append, HL.out]; rfl
          · rw [HST.out, jcells_snoc]; exact HOW7.out
        case measure => simp [intOf] <;> omega
      · have h10' : ¬ (k : Int) < 10 := by omega
        have HST : Hid ((L.take 10).take (k + 1) = (L.take 10).take k) := by
          rw [List.take_of_length_le (l := L.take 10) (by rw [List.length_take]; omega), List.take_of_length_le (l := L.take 10) (by rw [List.length_take]; omega)]; exact hide rfl
        have hd : decide ((k : Int) < 10) = false := decide_eq_false h10'
        go_wp2
        go_roundw
        case rel => exact ⟨k + 1, j, c', X, by omega, by go_num, rfl, hjc, by omega, hj9, hide (by rw [HST.out]; exact HL.out), hide (by rw [HST.out]; exact HOW.out.alloc _), HBA.out _⟩
        case measure => simp [intOf] <;> omega
    · obtain rfl : n = k := by omega
      have HALL : Hid ((L.take 10).take n = L.take 10) := List.take_of_length_le (by rw [List.length_take, HN.out]; omega)
      rw [HALL.out] at HL HOW
      go_wp2
      go_ret
      exact ⟨X, j, c', rfl, HL.out, hjc, HOW.out, HB.out⟩
theorem info_ownp : (Try.prog.info? 36).map (fun i => (i.zero, i.size, i.bytes)) = some (some (.agg #[.int .i64 0, .int .i64 0, .int .i64 0]), 3, 24) := by kernel_rfl
set_option maxRecDepth 100000 in
set_option maxHeartbeats 1600000 in
theorem ownp_any (A : Option Addr) (n c : Nat) (L : List P3) (w : World) (hn : L.length = n) (hlen : n ≤ 1000) (hA : PcsA w w.heap.size A L) :
    Calls Try.prog 23 #[.slice A n c] w fun e w' => ∃ X k c', e = .returned (.slice X k c') ∧ L.length = k ∧ k ≤ c' ∧ w'.ownsRow w.heap.size 36 3 (.slice X k c') k (pcells L) ∧ Below w.heap.size w w' := by
  have HN := hide hn
  have HA := hide hA
  clear hn hA
  go_enter Try.func23, Try.ntmps23
  go_wp2
  go_loopw [3, 8] (fun v i wr => ∃ (k j c' : Nat) (X : Option Addr), k ≤ n ∧ i = .int .i64 k ∧ v = .slice X j c' ∧ j ≤ c' ∧ j ≤ k ∧ Hid ((L.take k).length = j) ∧ Hid (wr.ownsRow w.heap.size 36 3 (.slice X j c') j (pcells (L.take k))) ∧ Below w.heap.size w wr) (fun _ i _ => n - (intOf i).toNat)
  case atStart => exact ⟨0, 0, 0, none, Nat.zero_le _, rfl, rfl, Nat.le_refl _, Nat.le_refl _, hide (by simp), hide (by rw [List.take_zero]; exact World.ownsRow_nil _ _ _ _), Below.refl _ _⟩
  case round =>
    obtain ⟨k, j, c', X, hk, rfl, rfl, hjc, hjk, HL, HOW, hbel⟩ := hrel
    have HB := hide hbel
    by_cases hlt : k < n
    · obtain ⟨bj, oj, pj, pf, pt, rfl, hbj, hc0, hc1, hc2,hx⟩ := (HA.out.below hbel).at_ (k := k) (by rw [HN.out]; exact hlt)
      have HX := hide hx.out
      have hkn : (k : Int) < (n : Int) := by omega
      have HBA : Hid (∀ o, Below w.heap.size w (wr.alloc o)) := fun o => HB.out.alloc HB.out.size _
      clear hbel hx
      have hone : ∀ y9 ∈ ([.int .i64 pj, .int .i64 pf, .int .i64 pt] : List Value), y9.oneCell' = true := by intro y9 hu; simp at hu; rcases hu with rfl | rfl | rfl <;> rfl
      have HST : Hid (L.take (k + 1) = (L.take k) ++ [⟨pj, pf, pt⟩]) := by
        rw [List.take_succ_eq_append_getElem (by rw [HN.out]; omega)]
        congr 1
        rw [getD_cons_of (d := p0) (by rw [HN.out]; omega), HX.out]
      go_wp2_with (at_builtin; refine wpList_appS (w0 := wr.alloc (.cells #[.int .i64 pj, .int .i64 pf, .int .i64 pt] 44)) _ _ 31 36 (.agg #[.int .i64 0, .int .i64 0, .int .i64 0]) 3 24 rfl rfl Try.underlying31 info_ownp rfl (by decide) w.heap.size (.slice X j c') j (pcells (L.take k)) [.int .i64 pj, .int .i64 pf, .int .i64 pt] rfl rfl (by simp [Act.eval]) rfl ⟨_, rfl⟩ (HOW.out.alloc _) hone (by omega) (by omega) (HBA.out _).size ?_; intro ga cg w7 hown1 hd1 hd2 hg1 hgl2 hgrow; have HOW7 := hide hown1; have HG := hide hgrow; clear hown1 hgrow)
      go_roundw
      case rel =>
        refine ⟨k + 1, j + 1, cg, some ⟨ga, 0, none⟩, by omega, by go_num, rfl, hd1, by omega, hide ?_, hide ?_, (HBA.out _).grown HG.out (HBA.out _).size (fun q hq => (own_ltS HOW.out q hq).1)⟩
        · rw [HST.out, List.length_append, HL.out]; rfl
        · rw [HST.out, pcells_snoc]; exact HOW7.out
      case measure => simp [intOf] <;> omega
    · obtain rfl : n = k := by omega
      have HALL : Hid (L.take n = L) := List.take_of_length_le (by rw [HN.out]; exact Nat.le_refl _)
      rw [HALL.out] at HL HOW
      go_wp2
      go_ret
      exact ⟨X, j, c', rfl, HL.out, hjc, HOW.out, HB.out⟩
theorem info_pieces : (Try.prog.info? 44).map (fun i => (i.zero, i.size, i.bytes)) = some (some (.agg #[.int .i64 0, .int .i64 0, .int .i64 0]), 3, 24) := by kernel_rfl
set_option maxRecDepth 100000 in
set_option maxHeartbeats 1600000 in
theorem pieces_any (A : Option Addr) (n c : Nat) (L : List P3) (w : World) (hn : L.length = n) (hlen : n ≤ 9223372036854775807) (hA : PcsA w w.heap.size A L) :
    Calls Try.prog 33 #[.slice A n c] w fun e w' => ∃ X k c', e = .returned (.slice X k c') ∧ (L.take 200).length = k ∧ k ≤ c' ∧ w'.ownsRow w.heap.size 44 3 (.slice X k c') k (pcells (L.take 200)) ∧ Below w.heap.size w w' := by
  have HN := hide hn
  have HA := hide hA
  clear hn hA
  go_enter Try.func33, Try.ntmps33
  go_wp2
  go_loopw [3, 8] (fun v i wr => ∃ (k j c' : Nat) (X : Option Addr), k ≤ n ∧ i = .int .i64 k ∧ v = .slice X j c' ∧ j ≤ c' ∧ j ≤ k ∧ j ≤ 200 ∧ Hid (((L.take 200).take k).length = j) ∧ Hid (wr.ownsRow w.heap.size 44 3 (.slice X j c') j (pcells ((L.take 200).take k))) ∧ Below w.heap.size w wr) (fun _ i _ => n - (intOf i).toNat)
  case atStart => exact ⟨0, 0, 0, none, Nat.zero_le _, rfl, rfl, Nat.le_refl _, Nat.le_refl _, by omega, hide (by simp), hide (by rw [List.take_zero]; exact World.ownsRow_nil _ _ _ _), Below.refl _ _⟩
  case round =>
    obtain ⟨k, j, c', X, hk, rfl, rfl, hjc, hjk, hj9, HL, HOW, hbel⟩ := hrel
    have HB := hide hbel
    by_cases hlt : k < n
    · obtain ⟨bj, oj, pj, pf, pt, rfl, hbj, hc0, hc1, hc2,hx⟩ := (HA.out.below hbel).at_ (k := k) (by rw [HN.out]; exact hlt)
      have HX := hide hx.out
      have hkn : (k : Int) < (n : Int) := by omega
      have HBA : Hid (∀ o, Below w.heap.size w (wr.alloc o)) := fun o => HB.out.alloc HB.out.size _
      clear hbel hx
      by_cases h10 : k < 200
      · have h10' : (k : Int) < 200 := by omega
        have hj10 : j < 200 := by have := HL.out; rw [List.length_take, List.length_take, HN.out] at this; omega
        have hone : ∀ y9 ∈ ([.int .i64 pj, .int .i64 pf, .int .i64 pt] : List Value), y9.oneCell' = true := by intro y9 hu; simp at hu; rcases hu with rfl | rfl | rfl <;> rfl
        have HST : Hid ((L.take 200).take (k + 1) = ((L.take 200).take k) ++ [⟨pj, pf, pt⟩]) := by
          rw [List.take_succ_eq_append_getElem (by rw [List.length_take, HN.out]; omega)]
          congr 1
          rw [List.getElem_take, getD_cons_of (d := p0) (by rw [HN.out]; omega), HX.out]
        go_wp2_with (at_builtin; refine wpList_appS (w0 := wr.alloc (.cells #[.int .i64 pj, .int .i64 pf, .int .i64 pt] 36)) _ _ 23 44 (.agg #[.int .i64 0, .int .i64 0, .int .i64 0]) 3 24 rfl rfl Try.underlying23 info_pieces rfl (by decide) w.heap.size (.slice X j c') j (pcells ((L.take 200).take k)) [.int .i64 pj, .int .i64 pf, .int .i64 pt] rfl rfl (by simp [Act.eval]) rfl ⟨_, rfl⟩ (HOW.out.alloc _) hone (by omega) (by omega) (HBA.out _).size ?_; intro ga cg w7 hown1 hd1 hd2 hg1 hgl2 hgrow; have HOW7 := hide hown1; have HG := hide hgrow; clear hown1 hgrow)
        go_roundw
        case rel =>
          refine ⟨k + 1, j + 1, cg, some ⟨ga, 0, none⟩, by omega, by go_num, rfl, hd1, by omega, by omega, hide ?_, hide ?_, (HBA.out _).grown HG.out (HBA.out _).size (fun q hq => (own_ltS HOW.out q hq).1)⟩
          · rw [HST.out, List.length_append, HL.out]; rfl
          · rw [HST.out, pcells_snoc]; exact HOW7.out
        case measure => simp [intOf] <;> omega
      · have h10' : ¬ (k : Int) < 200 := by omega
        have HST : Hid ((L.take 200).take (k + 1) = (L.take 200).take k) := by
          rw [List.take_of_length_le (l := L.take 200) (by rw [List.length_take]; omega), List.take_of_length_le (l := L.take 200) (by rw [List.length_take]; omega)]; exact hide rfl
        have hd : decide ((k : Int) < 200) = false := decide_eq_false h10'
        go_wp2
        go_roundw
        case rel => exact ⟨k + 1, j, c', X, by omega, by go_num, rfl, hjc, by omega, hj9, hide (by rw [HST.out]; exact HL.out), hide (by rw [HST.out]; exact HOW.out.alloc _), HBA.out _⟩
        case measure => simp [intOf] <;> omega
    · obtain rfl : n = k := by omega
      have HALL : Hid ((L.take 200).take n = L.take 200) := List.take_of_length_le (by rw [List.length_take, HN.out]; omega)
      rw [HALL.out] at HL HOW
      go_wp2
      go_ret
      exact ⟨X, j, c', rfl, HL.out, hjc, HOW.out, HB.out⟩
end Go.Proofs.Ytiadineakhcclaa

/-
  slices.Index over ints: the first place, or -1.
-/
namespace Go.Proofs.Ytiadineakhcclaa
set_option linter.unusedVariables false
set_option linter.unusedSimpArgs false
open Go.RowKit
set_option maxHeartbeats 400000 in
theorem index_any (A : Option Addr) (n c B : Nat) (l : List Int) (v : Int) (w : World) (hn : l.length = n) (hlen : n ≤ 9223372036854775807) (hA : IntsA w B A l) :
    Calls Try.prog 48 #[.slice A n c, .int .i64 v] w fun e w' => e = .returned (.int .i64 (idx l v)) ∧ w = w' := by
  subst hn
  generalize hid : idx l v = r
  have HI := hide hid; clear hid
  go_enter Try.func48, Try.ntmps48
  go_wp2
  go_loop [8] (fun i => ∃ k : Nat, k ≤ l.length ∧ i = .int .i64 k ∧ ∀ j, j < k → Hid ((l.getD j 0 == v) = false)) (fun i => l.length - (intOf i).toNat)
  case atStart => exact ⟨0, Nat.zero_le _, rfl, fun j hj => absurd hj (by omega)⟩
  case round =>
    obtain ⟨k, hk, rfl, hno⟩ := hrel
    by_cases hlt : k < l.length
    · obtain ⟨b, o, x, rfl, hb, hc, hx⟩ := hA.at_ hlt
      by_cases he : v = x
      · have h1 : (v == x) = true := by simpa using he
        have HE := hide he; clear he
        go_wp2
        go_ret
        refine ⟨?_, rfl⟩
        rw [← HI.out, idx, fidx_found hlt (by rw [hx.out, HE.out]; simp) (fun j hj => (hno j hj).out)]
        rfl
      · have h1 : (v == x) = false := by simpa using he
        have HE : Hid (¬ v = x) := he
        clear he
        go_wp2
        go_round
        case rel =>
          refine ⟨k + 1, by omega, by go_num, fun j hj => ?_⟩
          by_cases e : j = k
          · subst e; show (_ == _) = false; rw [hx.out]; simp; exact fun h => HE.out h.symm
          · exact hno j (by omega)
        case measure => simp [intOf]; omega
    · go_wp2
      go_ret
      refine ⟨?_, rfl⟩
      rw [← HI.out, idx, fidx_none (fun j hj => (hno j (by omega)).out)]
      rfl
end Go.Proofs.Ytiadineakhcclaa

/-
  The functions inside DatesOrders: worst, keeps.
-/
namespace Go.Proofs.Ytiadineakhcclaa
open Go.RowKit Go.Deep
set_option linter.unusedVariables false
set_option linter.unusedSimpArgs false

theorem goes_oworst : Goes Try.prog 44 := goes_of Try.func44 (by kernel_rfl) (by kernel_rfl)
theorem goes_okeeps : Goes Try.prog 47 := goes_of Try.func47 (by kernel_rfl) (by kernel_rfl)
set_option maxRecDepth 100000 in
set_option maxHeartbeats 1600000 in
theorem oworst_any (A : Option Addr) (n c bb : Nat) (L : List J4) (X : Option Addr) (q xc : Nat) (o : List Int) (w : World) (hn : L.length = n) (hlen : n ≤ 9223372036854775807) (hv : jobsB L = true) (hq : o.length = q) (hq9 : q ≤ 9223372036854775807) (hA : JobsA w w.heap.size A L) (hX : IntsA w w.heap.size X o) (hc : w.cell? ⟨bb, 0, none⟩ = some (.slice A n c)) :
    Calls Try.prog 44 (#[.slice X q xc] ++ #[.pointer (some ⟨bb, 0, none⟩)]) w fun e w' => e = .returned (.tuple #[.int .i64 (if ordB o n = true then rdelTo L (rowN L o) n else -1073741824), .bool (ordB o n)]) ∧ Below w.heap.size w w' := by
  have hL := jobsB_iff.1 hv
  have h8 : n ≤ 8 := by rw [← hn]; exact hL.le
  have hbb : bb < w.heap.size := cell_lt hc
  have HB0 : Hid (Below w.heap.size w w) := hide (Below.refl _ _)
  have HOF : Hid (∀ w', Below w.heap.size w w' → Calls Try.prog 18 #[.slice A n c] w' fun e w'' => ∃ X c', e = .returned (.slice X n c') ∧ JobsA w'' w''.heap.size X L ∧ Below w'.heap.size w' w'') := fun w' hb =>
    (of_any A n c L w' hn hlen (hA.next hb)).mono fun e w'' ⟨X, k, c', h1, h2, h3, h4, h5⟩ => by
      have h6 := jobs_of_own h4
      rw [hL.take] at h2 h6
      rw [hn] at h2; subst h2
      exact ⟨X, c', h1, h6, h5⟩
  have HX := hide hX
  have HA := hide hA
  have HN := hide hn
  have HL := hide hL
  have HQ := hide (fun w' (hb : Below w.heap.size w w') => (hb.cell (p := ⟨bb, 0, none⟩) hbb).trans hc)
  show Calls _ _ #[.slice X q xc, .pointer (some ⟨bb, 0, none⟩)] _ _
  cases ho : ordB o n with
  | false =>
    have HE := hide (fun w' Z c' (hZ : JobsA w' w'.heap.size Z L) (hY : IntsA w' w'.heap.size X o) => ends_no Z n c' L X q xc o w' hn hlen hZ hq hq9 hY (.inr ⟨hv, ho⟩))
    clear hX hA hn hL hv ho hq
    go_enter Try.func44, Try.ntmps44
    go_wp2_with (first
      | (go_at_call 18; refine (HOF.out _ HB0.out).mono ?_; rintro e w1 ⟨X1, c1, rfl, hx1, hb1⟩; have HX1 := hide hx1; have HB1 := hide hb1; clear hx1 hb1)
      | (go_at_call 27; refine (HE.out _ X1 c1 HX1.out (HX.out.next HB1.out)).mono ?_; rintro e w2 ⟨rfl, hb2⟩; have HB2 := hide (HB1.out.trans (hb2.mono HB1.out.size)); clear hb2))
    refine wp_loop_rounds 1 ?_
    rw [rounds_succ]
    go_wp2
    go_ret2
    exact ⟨rfl, HB2.out⟩
  | true =>
    have hoi := ordB_iff.1 ho
    have HE := hide (fun w' Z c' (hZ : JobsA w' w'.heap.size Z L) (hY : IntsA w' w'.heap.size X o) => ends_yes Z n c' L X q xc o w' hn hlen hZ hq hq9 hY hv ho)
    have HBD : Hid (∀ j, 0 ≤ (rowN L o).getD j 0 ∧ (rowN L o).getD j 0 ≤ 160) := fun j => by
      have := rowTo_bd hL (by rw [hn]; exact hoi.2.1) o.length (Nat.le_refl _) j
      have := hoi.1
      unfold rowN; omega
    have HEL : Hid ((rowN L o).length = n) := by show _ = _; rw [rowN, rowTo_len]; exact hn
    rw [if_pos rfl]
    generalize rowN L o = en at *
    clear hX hA hn hL hv ho hq hoi
    go_enter Try.func44, Try.ntmps44
    go_wp2_with (first
      | (go_at_call 18; refine (HOF.out _ HB0.out).mono ?_; rintro e w1 ⟨X1, c1, rfl, hx1, hb1⟩; have HX1 := hide hx1; have HB1 := hide hb1; clear hx1 hb1)
      | (go_at_call 27; refine (HE.out _ X1 c1 HX1.out (HX.out.next HB1.out)).mono ?_; rintro e w2 ⟨Z, zc, rfl, hzc, hI, hb2⟩; have HI := hide hI; have HB2 := hide (HB1.out.trans (hb2.mono HB1.out.size)); clear hI hb2))
    go_loopw [7, 19] (fun v7 v wr => ∃ (k : Nat) (y : Int), k ≤ n ∧ v = .int .i64 k ∧ v7 = .int .i64 y ∧ -1073741824 ≤ y ∧ y ≤ 1000 ∧ Hid (y = rdelTo L en k) ∧ Below w2.heap.size w2 wr) (fun _ v _ => n - (intOf v).toNat)
    case atStart => exact ⟨0, -1073741824, Nat.zero_le _, rfl, rfl, Int.le_refl _, by omega, hide rfl, Below.refl _ _⟩
    case round =>
      obtain ⟨k, y, hk, rfl, rfl, hy0, hy1, HY, hb⟩ := hrel
      have HB := hide hb
      have HBW := hide (HB2.out.trans (hb.mono HB2.out.size))
      have qq := HQ.out _ HBW.out
      by_cases hlt : k < n
      · have hkn : (k : Int) < (n : Int) := by omega
        obtain ⟨bj, oj, t, r, d, u, rfl, hbj, hj0, hj1, hj2, hj3, hxj⟩ := (HA.out.next HBW.out).at_ (k := k) (by rw [HN.out]; exact hlt)
        obtain ⟨bz, oz, x, rfl, hbz, hcz, hxz⟩ := (HI.out.next hb).at_ (k := k) (by rw [HEL.out]; exact hlt)
        have hdb := HL.out.at_ k (by rw [HN.out]; exact hlt)
        have hxb := HBD.out k
        have hR : rdelTo L en (k + 1) = max (rdelTo L en k) (en.getD k 0 - (L.getD k j0).d) := rfl
        rw [hxj.out] at hdb hR
        rw [hxz.out] at hxb hR
        rw [← HY.out] at hR
        simp only [] at hdb hR
        obtain ⟨_, _, _, _, hd0, hd1, _, _⟩ := hdb
        have HR := hide hR
        have hsub : IntKind.i64.wrap (x - d) = x - d := by rw [IntKind.wrap_i64]; omega
        clear hb hxj hxz hR
        by_cases hlt3 : y < x - d
        · have HR2 : Hid (x - d = rdelTo L en (k + 1)) := by show _ = _; rw [HR.out]; omega
          clear HR
          go_wp2
          go_roundw
          case rel => exact ⟨k + 1, x - d, by omega, by go_num, rfl, by omega, by omega, HR2, HB.out⟩
          case measure => simp [intOf] <;> omega
        · have HR2 : Hid (y = rdelTo L en (k + 1)) := by show _ = _; rw [HR.out]; omega
          clear HR
          go_wp2
          go_roundw
          case rel => exact ⟨k + 1, y, by omega, by go_num, rfl, by omega, by omega, HR2, HB.out⟩
          case measure => simp [intOf] <;> omega
      · obtain rfl : n = k := by omega
        go_wp2
        go_ret2
        exact ⟨by rw [← HY.out]; rfl, HBW.out⟩
set_option maxRecDepth 100000 in
set_option maxHeartbeats 1600000 in
theorem okeeps_any (PA : Option Addr) (m pc bb : Nat) (P : List (Int × Int)) (X : Option Addr) (q xc : Nat) (o : List Int) (w : World) (hm : P.length = m) (hmm : m ≤ 9223372036854775807) (hq : o.length = q) (hq9 : q ≤ 9223372036854775807) (hP : PrsA w w.heap.size PA P) (hX : IntsA w w.heap.size X o) (hc : w.cell? ⟨bb, 0, none⟩ = some (.slice PA m pc)) :
    Calls Try.prog 47 (#[.slice X q xc] ++ #[.pointer (some ⟨bb, 0, none⟩)]) w fun e w' => e = .returned (.bool (keepB P o)) ∧ Below w.heap.size w w' := by
  have hbb : bb < w.heap.size := cell_lt hc
  have HM := hide hm
  have HP := hide hP
  have HIX := hide (fun w' v (hb : Below w.heap.size w w') => index_any X q xc w'.heap.size o v w' hq hq9 (hX.next hb))
  show Calls _ _ #[.slice X q xc, .pointer (some ⟨bb, 0, none⟩)] _ _
  clear hm hP hX hq
  go_enter Try.func47, Try.ntmps47
  go_wp2
  go_loopw [8] (fun v wr => ∃ k : Nat, k ≤ m ∧ v = .int .i64 k ∧ Hid ((P.take k).all (fun p => decide (idx o p.1 < idx o p.2)) = true) ∧ Below w.heap.size w wr) (fun v _ => m - (intOf v).toNat)
  case atStart => exact ⟨0, Nat.zero_le _, rfl, hide (by simp), Below.refl _ _⟩
  case round =>
    obtain ⟨k, hk, rfl, HK, hb⟩ := hrel
    obtain ⟨w1, rfl⟩ : ∃ w1 : World, w1 = wr := ⟨_, rfl⟩
    have HB := hide hb
    by_cases hlt : k < m
    · have hkm : (k : Int) < (m : Int) := by omega
      obtain ⟨bj, oj, x, y, rfl, hbj, hc0, hc1, hx⟩ := (HP.out.next hb).at_ (k := k) (by rw [HM.out]; exact hlt)
      have HXX := hide hx.out
      obtain ⟨i1, hi1⟩ : ∃ i1, i1 = idx o x := ⟨_, rfl⟩
      obtain ⟨i2, hi2⟩ : ∃ i2, i2 = idx o y := ⟨_, rfl⟩
      have HI1 := hide (fun (oo : Obj) qq => (HIX.out ((w1.alloc oo).drewN qq) x (below_drewN (hb.alloc hb.size oo) qq)).mono fun _ _ h => (⟨h.1, h.2.symm⟩ : _ ∧ _))
      have HI2 := hide (fun (oo : Obj) qq => (HIX.out ((w1.alloc oo).drewN qq) y (below_drewN (hb.alloc hb.size oo) qq)).mono fun _ _ h => (⟨h.1, h.2.symm⟩ : _ ∧ _))
      rw [← hi1] at HI1
      rw [← hi2] at HI2
      have HBW : Hid (∀ oo qq, Below w.heap.size w ((w1.alloc oo).drewN qq)) := fun oo qq => below_drewN (hb.alloc hb.size oo) qq
      have HTK : Hid ((P.take (k + 1)).all (fun p => decide (idx o p.1 < idx o p.2)) = ((P.take k).all (fun p => decide (idx o p.1 < idx o p.2)) && decide (i1 < i2))) := by
        show _ = _
        rw [List.take_succ_eq_append_getElem (by rw [HM.out]; exact hlt), List.all_append, getD_cons_of (d := ((0 : Int), (0 : Int))) (by rw [HM.out]; exact hlt), HXX.out, hi1, hi2]
        simp
      have HFA : Hid (¬ i1 < i2 → keepB P o = false) := fun h => by
        unfold keepB
        rw [List.all_eq_false]
        refine ⟨_, List.getElem_mem (by rw [HM.out]; exact hlt), ?_⟩
        rw [getD_cons_of (d := ((0 : Int), (0 : Int))) (by rw [HM.out]; exact hlt), HXX.out, decide_eq_true_iff]
        show ¬ idx o x < idx o y
        rw [← hi1, ← hi2]; exact h
      clear hb hx hi1 hi2
      by_cases hlt3 : i1 < i2
      · have HT : Hid ((P.take (k + 1)).all (fun p => decide (idx o p.1 < idx o p.2)) = true) := by show _ = _; rw [HTK.out, HK.out, decide_eq_true hlt3]; rfl
        have hdl : decide (i2 ≤ i1) = false := decide_eq_false (by omega)
        clear HTK HFA
        go_wp2
        go_quiet ((first | (with_reducible exact Calls.quiet_of_same (HI1.out _ _)) | (with_reducible exact Calls.quiet_of_same (HI2.out _ _))))
        go_wp2
        go_roundw
        case rel => exact ⟨k + 1, by omega, by go_num, HT, HBW.out _ _⟩
        case measure => simp [intOf] <;> omega
      · have HF : Hid (keepB P o = false) := hide (HFA.out hlt3)
        have hdl : decide (i2 ≤ i1) = true := decide_eq_true (by omega)
        clear HTK HFA
        go_wp2
        go_quiet ((first | (with_reducible exact Calls.quiet_of_same (HI1.out _ _)) | (with_reducible exact Calls.quiet_of_same (HI2.out _ _))))
        go_wp2
        go_ret
        exact ⟨by rw [HF.out]; rfl, HBW.out _ _⟩
    · obtain rfl : m = k := by omega
      have HF : Hid (keepB P o = true) := by
        have h9 := HK.out
        rw [List.take_of_length_le (by rw [HM.out]; exact Nat.le_refl _)] at h9
        exact hide h9
      clear hb
      go_wp2
      go_ret
      exact ⟨by rw [HF.out]; rfl, HB.out⟩
end Go.Proofs.Ytiadineakhcclaa

/-
  slices.SortStableFunc of at most 8 places with the function corrody/corrodylaw06.DatesOrders-2.
-/
namespace Go.Proofs.Ytiadineakhcclaa
open Go.RowKit Go.Deep
set_option linter.unusedVariables false
set_option linter.unusedSimpArgs false

def Post_SortDO (key : Nat → Int) (s0 : Nat → Nat) (n g c : Nat) (w : World) (e : Ending) (w' : World) : Prop :=
  ∃ s : Nat → Nat, Sorted0 key s0 s n n ∧ RowO w' g n c 3 (fun k => .int .i64 (s k : Nat)) ∧ w.grownBy w' (some g) ∧ e = .returned (.tuple #[])
set_option maxRecDepth 100000 in
set_option maxHeartbeats 1600000 in
theorem insertion_SortDO (caps : Array Value) (key : Nat → Int) (cv : Nat → Nat → Int) (m g n c : Nat) (s0 : Nat → Nat) (w : World) (hcv : ∀ a b, cv a b < 0 ↔ key a < key b) (hm8 : m ≤ 8) (hn8 : n ≤ 8) (hlow : ∀ k, k < n → s0 k < m) (hasc : ∀ a b, a < b → b < n → s0 a < s0 b)
    (hC : ∀ (w' : World) (a b : Nat), w.grownBy w' (some g) → a < m → b < m → Calls Try.prog 46 (#[.int .i64 (a : Nat), .int .i64 (b : Nat)] ++ caps) w' fun e w'' => e = .returned (.int .i64 (cv a b)) ∧ ∃ q, w'' = w'.drewN q)
    (hR : RowO w g n c 3 (fun k => .int .i64 (s0 k : Nat))) :
    Calls Try.prog 82 #[.slice (some ⟨g, 0, none⟩) n c, .int .i64 0, .int .i64 (n : Nat), .func (.func 46) #[] caps] w (Post_SortDO key s0 n g c w) := by
  have HR := hide hR
  have HLOW := hide hlow
  have HASC := hide hasc
  have HCVV := hide hcv
  have HCM := hide hC
  have HG0 : Hid (w.grownBy w (some g)) := ⟨rfl, rfl, rfl, Nat.le_refl _, fun _ _ _ => rfl⟩
  have HS0 : Hid (n = 0 ∨ Sorted0 key s0 s0 n 1) := by
    by_cases e : n = 0
    · exact .inl e
    · exact .inr ⟨by omega, fun k hk => ⟨k, hk, rfl⟩, fun k _ _ => rfl, fun a b h1 h2 => by omega⟩
  clear hlow hasc hC hR hcv
  go_enter Try.func82, Try.ntmps82
  go_wp2
  go_loopw [8] (fun v8 wr => ∃ (i : Nat) (s : Nat → Nat), 1 ≤ i ∧ (i ≤ n ∨ i = 1 ∧ n = 0) ∧ v8 = .int .i64 i ∧ Hid (n = 0 ∨ Sorted0 key s0 s n i) ∧ Hid (RowO wr g n c 3 (fun k => .int .i64 (s k : Nat))) ∧ Hid (w.grownBy wr (some g))) (fun v8 _ => n + 1 - (intOf v8).toNat)
  case atStart => exact ⟨1, s0, Nat.le_refl _, by omega, rfl, HS0, HR, HG0⟩
  case round =>
    obtain ⟨i, s, hi1, hi2, rfl, HS, HRi, HG⟩ := hrel
    obtain ⟨w1, rfl⟩ : ∃ w1 : World, w1 = wr := ⟨_, rfl⟩
    by_cases hlt : i < n
    · have hin : (i : Int) < (n : Int) := by omega
      have HSI : Hid (Sorted0 key s0 s n i) := by rcases HS.out with h | h; omega; exact h
      have HRS : Hid (RowO w1 g n c 3 (fun k => .int .i64 (movF s i i k : Nat))) := HRi.out.congr fun k hk => by rw [movF_self]
      go_wp2
      go_loopw [9] (fun v9 wr => ∃ j : Nat, j ≤ i ∧ v9 = .int .i64 j ∧ Hid (∀ k, j ≤ k → k < i → key (s i) < key (s k)) ∧ Hid (RowO wr g n c 3 (fun k => .int .i64 (movF s i j k : Nat))) ∧ Hid (w.grownBy wr (some g))) (fun v9 _ => (intOf v9).toNat)
      case atStart => exact ⟨i, Nat.le_refl _, rfl, fun k h1 h2 => by omega, HRS, HG⟩
      case round =>
        obtain ⟨j, hj, rfl, HGT, HRj, HGj⟩ := hrel
        obtain ⟨w2, rfl⟩ : ∃ w2 : World, w2 = wr := ⟨_, rfl⟩
        have HGD : Hid (∀ q, w.grownBy (w2.drewN q) (some g)) := fun q => ⟨HGj.out.os, HGj.out.tape, HGj.out.output, HGj.out.size, HGj.out.block⟩
        by_cases hj0 : j = 0
        · have hjd : decide ((0 : Int) < (j : Int)) = false := decide_eq_false (by omega)
          have hjd2 : decide (0 < j) = false := decide_eq_false (by omega)
          have HNX : Hid (n = 0 ∨ Sorted0 key s0 (movF s i j) n (i + 1)) := .inr (HSI.out.next hlt HASC.out hj HGT.out (.inl hj0))
          clear hj0
          go_wp2
          go_quiet (fail)
          go_wp2
          go_roundw
          case rel => exact ⟨i + 1, movF s i j, by omega, by omega, by go_num, HNX, hide (HRj.out.of_block (w' := w2.drewN _) rfl), hide (HGD.out _)⟩
          case measure => simp [intOf] <;> omega
        · obtain ⟨j1, hja, hjb⟩ : ∃ j1, j ≤ j1 + 1 ∧ j1 + 1 ≤ j := ⟨j - 1, by omega, by omega⟩
          have hjd : decide ((0 : Int) < (j : Int)) = true := decide_eq_true (by omega)
          have hjd2 : decide (0 < j) = true := decide_eq_true (by omega)
          have hjd3 : 0 < j := by omega
          have hjn : (j : Int) < (n : Int) := by omega
          have hj1n : (j1 : Int) < (n : Int) := by omega
          obtain ⟨x, hx⟩ : ∃ x, s i = x := ⟨_, rfl⟩
          obtain ⟨y, hy⟩ : ∃ y, s j1 = y := ⟨_, rfl⟩
          have hc1 : w2.cell? ⟨g, j, none⟩ = some (.int .i64 (x : Nat)) := by
            have h9 := HRj.out.cell (k := j) (by omega)
            rw [h9]
            show some (Value.int .i64 ((movF s i j j : Nat) : Int)) = _
            unfold movF
            rw [if_neg (Nat.lt_irrefl _), if_pos rfl, hx]
          have hc2 : w2.cell? ⟨g, j1, none⟩ = some (.int .i64 (y : Nat)) := by
            have h9 := HRj.out.cell (k := j1) (by omega)
            rw [h9]
            show some (Value.int .i64 ((movF s i j j1 : Nat) : Int)) = _
            unfold movF
            rw [if_pos (by omega), hy]
          have hf1 := HRj.out.free j
          have hf2 := HRj.out.free j1
          have hgl := HRj.out.lt
          have hxm : x < m := by rw [← hx, HSI.out.high i (Nat.le_refl _) hlt]; exact HLOW.out i hlt
          have hym : y < m := by
            obtain ⟨q, hq, e⟩ := HSI.out.low j1 (by omega)
            rw [← hy, e]; exact HLOW.out q (by omega)
          have HC2 := hide (fun q => HCM.out (w2.drewN q) x y (HGD.out q) hxm hym)
          obtain ⟨cw, hcw⟩ : ∃ cw, cv x y = cw := ⟨_, rfl⟩
          have HCV : Hid (cw < 0 ↔ key x < key y) := by rw [← hcw]; exact HCVV.out x y
          rw [hcw] at HC2
          have HX := hide hx
          have HY := hide hy
          clear hcw hx hy hj0
          by_cases hq : cw < 0
          · have hqd : decide (cw < 0) = true := decide_eq_true hq
            have HGT2 : Hid (∀ k, j1 ≤ k → k < i → key (s i) < key (s k)) := fun k h1 h2 => by
              by_cases e : k = j1
              · subst e; rw [HX.out, HY.out]; exact HCV.out.1 hq
              · exact HGT.out k (by omega) h2
            clear hq
            have hs4 : IntKind.i64.wrap ((j : Int) - 1) = (j1 : Int) := by rw [IntKind.wrap_i64]; omega
            go_wp2
            go_quiet ((go_at_call 46; exact Calls.quiet_of (HC2.out _)))
            go_wp2
            go_region
            go_wp2
            clear hs4
            go_roundw
            case rel =>
              refine ⟨j1, by omega, by congr 1, HGT2, hide ((((HRj.out.of_block (w' := w2.drewN _) rfl).set (i := j) (by omega) (.int .i64 (y : Nat))).set (i := j1) (by omega) (.int .i64 (x : Nat))).congr fun k hk => ?_), hide ?_⟩
              · have hjj : j = j1 + 1 := by omega
                have h9 := movF_swap s i j1 k (by omega)
                have h10 : movF s i (j1 + 1) (j1 + 1) = x := by unfold movF; rw [if_neg (Nat.lt_irrefl _), if_pos rfl]; exact HX.out
                have h11 : movF s i (j1 + 1) j1 = y := by unfold movF; rw [if_pos (by omega)]; exact HY.out
                rw [h10, h11] at h9
                show (if k = j1 then Value.int .i64 (x : Nat) else if k = j then Value.int .i64 (y : Nat) else Value.int .i64 (movF s i j k : Nat)) = Value.int .i64 (movF s i j1 k : Nat)
                rw [← h9, hjj]
                by_cases e1 : k = j1
                · rw [if_pos e1, if_pos e1]
                · rw [if_neg e1, if_neg e1]
                  by_cases e2 : k = j1 + 1
                  · rw [if_pos e2, if_pos e2]
                  · rw [if_neg e2, if_neg e2]
              · exact grown_set (grown_set (HGD.out _) _ _) _ _
            case measure => simp [intOf] <;> omega
          · have hqd : decide (cw < 0) = false := decide_eq_false hq
            have HNX : Hid (n = 0 ∨ Sorted0 key s0 (movF s i j) n (i + 1)) := .inr (HSI.out.next hlt HASC.out hj HGT.out (.inr (by
              have h9 : ¬ key x < key y := fun h => hq (HCV.out.2 h)
              show key (s (j - 1)) ≤ key (s i)
              rw [show j - 1 = j1 by omega, HX.out, HY.out]
              omega)))
            clear hq
            have hs4 : IntKind.i64.wrap ((j : Int) - 1) = (j1 : Int) := by rw [IntKind.wrap_i64]; omega
            go_wp2
            go_quiet ((go_at_call 46; exact Calls.quiet_of (HC2.out _)))
            go_wp2
            clear hs4
            go_roundw
            case rel => exact ⟨i + 1, movF s i j, by omega, by omega, by go_num, HNX, hide (HRj.out.of_block (w' := w2.drewN _) rfl), hide (HGD.out _)⟩
            case measure => simp [intOf] <;> omega
    · have HSN : Hid (Sorted0 key s0 s n n) := by
        rcases HS.out with h | h
        · subst h; exact ⟨Nat.le_refl _, fun k hk => by omega, fun k _ hk => by omega, fun a b _ hb => by omega⟩
        · obtain rfl : i = n := by have := h.le; omega
          exact h
      have hnl : ¬ (i : Int) < (n : Int) := by omega
      go_wp2
      go_end0
      exact ⟨s, HSN.out, HRi.out, HG.out, rfl⟩
set_option maxHeartbeats 1600000 in
theorem stable_SortDO (caps : Array Value) (key : Nat → Int) (cv : Nat → Nat → Int) (m g n c : Nat) (s0 : Nat → Nat) (w : World) (hcv : ∀ a b, cv a b < 0 ↔ key a < key b) (hm8 : m ≤ 8) (hn8 : n ≤ 8) (hlow : ∀ k, k < n → s0 k < m) (hasc : ∀ a b, a < b → b < n → s0 a < s0 b)
    (hC : ∀ (w' : World) (a b : Nat), w.grownBy w' (some g) → a < m → b < m → Calls Try.prog 46 (#[.int .i64 (a : Nat), .int .i64 (b : Nat)] ++ caps) w' fun e w'' => e = .returned (.int .i64 (cv a b)) ∧ ∃ q, w'' = w'.drewN q)
    (hR : RowO w g n c 3 (fun k => .int .i64 (s0 k : Nat))) :
    Calls Try.prog 70 #[.slice (some ⟨g, 0, none⟩) n c, .int .i64 (n : Nat), .func (.func 46) #[] caps] w (Post_SortDO key s0 n g c w) := by
  have HI := hide (insertion_SortDO caps key cv m g n c s0 w hcv hm8 hn8 hlow hasc hC hR)
  have d1 : decide ((20 : Int) ≤ (n : Int)) = false := decide_eq_false (by omega)
  have d2 : decide ((20 : Int) < (n : Int)) = false := decide_eq_false (by omega)
  have d3 : decide (20 ≤ n) = false := decide_eq_false (by omega)
  have d4 : decide (20 < n) = false := decide_eq_false (by omega)
  have h20 : n < 20 := by omega
  clear hlow hasc hC hR hcv
  go_enter Try.func70, Try.ntmps70
  go_wp2
  go_loopw [7, 8] (fun v7 v8 wr => v7 = .int .i64 0 ∧ v8 = .int .i64 20 ∧ wr = w) (fun _ _ _ => 0)
  case atStart => exact ⟨rfl, rfl, rfl⟩
  case round =>
    obtain ⟨rfl, rfl, rfl⟩ := hrel
    go_wp2_with (go_at_call 82; refine (HI.out).mono ?_; rintro e w1 ⟨s, h1, h2, h3, rfl⟩; have H1 := hide h1; have H2 := hide h2; have H3 := hide h3; clear h1 h2 h3)
    go_loopw [6] (fun v6 wr => v6 = .int .i64 20 ∧ wr = w1) (fun _ _ => 0)
    case atStart => exact ⟨rfl, rfl⟩
    case round =>
      obtain ⟨rfl, rfl⟩ := hrel
      go_wp2
      go_end0
      exact ⟨s, H1.out, H2.out, H3.out, rfl⟩
set_option maxHeartbeats 1600000 in
theorem sortStable_SortDO (caps : Array Value) (key : Nat → Int) (cv : Nat → Nat → Int) (m g n c : Nat) (s0 : Nat → Nat) (w : World) (hcv : ∀ a b, cv a b < 0 ↔ key a < key b) (hm8 : m ≤ 8) (hn8 : n ≤ 8) (hlow : ∀ k, k < n → s0 k < m) (hasc : ∀ a b, a < b → b < n → s0 a < s0 b)
    (hC : ∀ (w' : World) (a b : Nat), w.grownBy w' (some g) → a < m → b < m → Calls Try.prog 46 (#[.int .i64 (a : Nat), .int .i64 (b : Nat)] ++ caps) w' fun e w'' => e = .returned (.int .i64 (cv a b)) ∧ ∃ q, w'' = w'.drewN q)
    (hR : RowO w g n c 3 (fun k => .int .i64 (s0 k : Nat))) :
    Calls Try.prog 45 #[.slice (some ⟨g, 0, none⟩) n c, .func (.func 46) #[] caps] w (Post_SortDO key s0 n g c w) := by
  have HI := hide (stable_SortDO caps key cv m g n c s0 w hcv hm8 hn8 hlow hasc hC hR)
  clear hlow hasc hC hR hcv
  go_enter Try.func45, Try.ntmps45
  go_wp2_with (go_at_call 70; refine (HI.out).mono ?_; rintro e w1 ⟨s, h1, h2, h3, rfl⟩; have H1 := hide h1; have H2 := hide h2; have H3 := hide h3; clear h1 h2 h3)
  go_end0
  exact ⟨s, H1.out, H2.out, H3.out, rfl⟩
/-! Nothing to sort. -/
set_option maxHeartbeats 400000 in
theorem insertion0_SortDO (caps : Array Value) (X : Option Addr) (c : Nat) (w : World) :
    Calls Try.prog 82 #[.slice X 0 c, .int .i64 0, .int .i64 0, .func (.func 46) #[] caps] w fun e w' => e = .returned (.tuple #[]) ∧ w = w' := by
  go_enter Try.func82, Try.ntmps82
  go_wp2
  go_loopw [8] (fun v8 wr => v8 = .int .i64 1 ∧ wr = w) (fun v8 _ => 0)
  case atStart => exact ⟨rfl, rfl⟩
  case round =>
    obtain ⟨rfl, rfl⟩ := hrel
    go_wp2
    go_end0
    exact ⟨rfl, rfl⟩
set_option maxHeartbeats 400000 in
theorem stable0_SortDO (caps : Array Value) (X : Option Addr) (c : Nat) (w : World) :
    Calls Try.prog 70 #[.slice X 0 c, .int .i64 0, .func (.func 46) #[] caps] w fun e w' => e = .returned (.tuple #[]) ∧ w = w' := by
  have HI := hide (insertion0_SortDO caps X c w)
  go_enter Try.func70, Try.ntmps70
  go_wp2
  go_loopw [7, 8] (fun v7 v8 wr => v7 = .int .i64 0 ∧ v8 = .int .i64 20 ∧ wr = w) (fun _ _ _ => 0)
  case atStart => exact ⟨rfl, rfl, rfl⟩
  case round =>
    obtain ⟨rfl, rfl, rfl⟩ := hrel
    go_wp2_with (go_at_call 82; refine (HI.out).mono ?_; rintro e w1 ⟨rfl, rfl⟩)
    obtain ⟨w1, rfl⟩ : ∃ w1 : World, w1 = wr := ⟨_, rfl⟩
    go_loopw [6] (fun v6 wr => v6 = .int .i64 20 ∧ wr = w1) (fun _ _ => 0)
    case atStart => exact ⟨rfl, rfl⟩
    case round =>
      obtain ⟨rfl, rfl⟩ := hrel
      go_wp2
      go_end0
      exact ⟨rfl, rfl⟩
set_option maxHeartbeats 400000 in
theorem sortStable0_SortDO (caps : Array Value) (X : Option Addr) (c : Nat) (w : World) :
    Calls Try.prog 45 #[.slice X 0 c, .func (.func 46) #[] caps] w fun e w' => e = .returned (.tuple #[]) ∧ w = w' := by
  have HI := hide (stable0_SortDO caps X c w)
  go_enter Try.func45, Try.ntmps45
  go_wp2_with (go_at_call 70; refine (HI.out).mono ?_; rintro e w1 ⟨rfl, rfl⟩)
  go_end0
  exact ⟨rfl, rfl⟩
end Go.Proofs.Ytiadineakhcclaa

/-
  The function corrody/corrodylaw06.DatesOrders-2: the one Due less the other.
-/
namespace Go.Proofs.Ytiadineakhcclaa
open Go.RowKit Go.Deep
set_option linter.unusedVariables false
set_option linter.unusedSimpArgs false

theorem goes_DO : Goes Try.prog 46 := goes_of Try.func46 (by kernel_rfl) (by kernel_rfl)
set_option maxHeartbeats 800000 in
theorem sub_DO (A : Option Addr) (n c bb : Nat) (L : List J4) (a b : Nat) (w : World) (hn : L.length = n) (hL : JobsOk L) (ha : a < n) (hb : b < n) (hA : JobsA w w.heap.size A L) (hc : w.cell? ⟨bb, 0, none⟩ = some (.slice A n c)) :
    Calls Try.prog 46 (#[.int .i64 (a : Nat), .int .i64 (b : Nat)] ++ #[.pointer (some ⟨bb, 0, none⟩)]) w fun e w' => e = .returned (.int .i64 ((L.getD a j0).d - (L.getD b j0).d)) ∧ ∃ m, w' = w.drewN m := by
  have hlen : n ≤ 8 := by rw [← hn]; exact hL.le
  have hJa := hL.at_ a (by omega)
  have hJb := hL.at_ b (by omega)
  obtain ⟨q, o, t1, r1, d1, u1, rfl, hb1, ha0, ha1, ha2, ha3, hx1⟩ := hA.at_ (k := a) (by omega)
  obtain ⟨q', o', t2, r2, d2, u2, e, hb2, hc0, hc1, hc2, hc3, hx2⟩ := hA.at_ (k := b) (by omega)
  injection e with e; injection e with e1 e2
  subst e1; subst e2
  rw [hx1.out] at hJa ⊢
  rw [hx2.out] at hJb ⊢
  show Calls _ _ _ _ fun e w' => e = .returned (.int .i64 (d1 - d2)) ∧ ∃ m, w' = w.drewN m
  simp only [] at hJa hJb
  have hd1 : 0 ≤ d1 ∧ d1 ≤ 200 := by omega
  have hd2 : 0 ≤ d2 ∧ d2 ≤ 200 := by omega
  have hsub : IntKind.i64.wrap (d1 - d2) = d1 - d2 := by rw [IntKind.wrap_i64]; omega
  have h1 : (a : Int) < (n : Int) := by omega
  have h2 : (b : Int) < (n : Int) := by omega
  clear hA hx1 hx2 hn ha0 ha1 ha3 hc0 hc1 hc3 hL hJa hJb
  go_enter Try.func46, Try.ntmps46
  go_wp2
  go_quiet (fail)
  go_wp2
  go_ret
  exact ⟨rfl, _, rfl⟩
end Go.Proofs.Ytiadineakhcclaa

/-
  Sorting jobs by Due with corrody/corrodylaw06.DatesOrders-2.
-/
namespace Go.Proofs.Ytiadineakhcclaa
open Go.RowKit Go.Deep
set_option linter.unusedVariables false
set_option linter.unusedSimpArgs false

theorem srt_DO (A : Option Addr) (n c bb base : Nat) (L : List J4) (X : Option Addr) (q c1 : Nat) (l0 : List Nat) (w : World) (hn : L.length = n) (hL : JobsOk L) (hq : l0.length = q) (hlow : ∀ k, k < q → l0.getD k 0 < n) (hasc : ∀ a b, a < b → b < q → l0.getD a 0 < l0.getD b 0)
    (hq8 : q ≤ 8) (hA : JobsA w w.heap.size A L) (hAb : ∀ b o, A = some ⟨b, o, none⟩ → b < base) (hbb : bb < base) (hc : w.cell? ⟨bb, 0, none⟩ = some (.slice A n c)) (hown : w.ownsRow base 3 1 (.slice X q c1) q ((up l0).map (Value.int .i64))) :
    Calls Try.prog 45 #[.slice X q c1, .func (.func 46) #[] #[.pointer (some ⟨bb, 0, none⟩)]] w fun e w' => ∃ s : Nat → Nat, Sorted0 (due L) (fun k => l0.getD k 0) s q q ∧ w'.ownsRow base 3 1 (.slice X q c1) q ((up ((List.range q).map s)).map (Value.int .i64)) ∧
      w.grownBy w' (Value.slice X q c1).ownBlock ∧ e = .returned (.tuple #[]) := by
  rcases Nat.eq_zero_or_pos q with h0 | h0
  · subst h0
    refine (sortStable0_SortDO _ X c1 w).mono ?_
    rintro e w' ⟨rfl, rfl⟩
    exact ⟨id, ⟨Nat.le_refl _, fun k hk => by omega, fun k _ hk => by omega, fun a b _ hb => by omega⟩, by rw [List.eq_nil_of_length_eq_zero hq] at hown; exact hown, ⟨rfl, rfl, rfl, Nat.le_refl _, fun _ _ _ => rfl⟩, rfl⟩
  · obtain ⟨g, cc, hX, hg1, hg2, hg3, hg4⟩ := own_form hown h0
    injection hX with hX1 _ hX2
    subst hX1; subst hX2
    have hR : RowO w g q c1 3 (fun k => .int .i64 ((l0.getD k 0 : Nat) : Int)) := (rowO_own hown).congr fun k hk => by
      show Value.int .i64 ((up l0).getD k 0) = _
      rw [up_getD]
    refine (sortStable_SortDO #[.pointer (some ⟨bb, 0, none⟩)] (due L) (fun a b => due L a - due L b) n g q c1 (fun k => l0.getD k 0) w (fun a b => by show due L a - due L b < 0 ↔ _; omega) (by rw [← hn]; exact hL.le) hq8 hlow hasc (fun w' a b hg ha hb => ?_) hR).mono ?_
    · refine sub_DO A n c bb L a b w' hn hL ha hb (fun i hi => ?_) (hg.cell hc (fun e => by have := Option.some.inj e; simp at this; omega))
      obtain ⟨b1, o1, e1, h1, h2, h3, h4, h5⟩ := hA i hi
      have hne : ∀ x, some (⟨b1, x, none⟩ : Addr).block ≠ some g := fun x e => by have := Option.some.inj e; have := hAb b1 o1 e1; simp at *; omega
      exact ⟨b1, o1, e1, Nat.lt_of_lt_of_le h1 hg.size, hg.cell h2 (hne _), hg.cell h3 (hne _), hg.cell h4 (hne _), hg.cell h5 (hne _)⟩
    · rintro e w' ⟨s, h1, h2, h3, rfl⟩
      refine ⟨s, h1, ?_, h3, rfl⟩
      have h5 := h2.own hown
      rw [show (up ((List.range q).map s)).map (Value.int .i64) = (List.range q).map (fun k => Value.int .i64 ((s k : Nat) : Int)) by simp [up]]
      exact h5
end Go.Proofs.Ytiadineakhcclaa

/-
  A call through a function value that is a variable, behind a guard that says yes.
-/
namespace Go.Proofs.Ytiadineakhcclaa
open Go.RowKit
set_option linter.unusedVariables false
set_option linter.unusedSimpArgs false

section
variable {P : Program} {ops : Array Oper} {rest : List Oper} {o : Oper} {a : Act} {w : World} {Q : Exit → Act → World → Prop}
theorem wpList_callv1g (fid : FuncId) (cap : Array Value) (f x : Operand) (v1 : Value) (ts : Array TypeId) (ho : o.op = .call { callee := .value f, args := #[x], argTypes := ts }) (hgd : Region.wanted o (yielded ops a.tmps) = true)
    (hf : a.eval f = .func (.func fid) #[] cap) (hx : a.eval x = v1) (hgo : Goes P fid)
    (h : Calls P fid (#[v1] ++ cap) w fun e w'' => ∃ v, e = .returned v ∧ wpList P ops Q rest (a.put o.dst v) w'') : wpList P ops Q (o :: rest) a w := by
  show if Region.wanted o (yielded ops a.tmps) = true then _ ∨ _ else _
  rw [if_pos hgd]
  left
  have hg := hgo (#[v1] ++ cap) w
  unfold Oper.wp execOp
  simp only [ho, resolve, Deferred.ofValue, invoke, hf, Sem.run_bind, Sem.run_pure, Result.andThen_ok, List.map_toArray, List.map_cons, List.map_nil, hx, Array.empty_append, hg, Oper.upon]
  refine h.mono ?_
  rintro e w'' ⟨v, rfl, hw⟩
  exact hw
end
end Go.Proofs.Ytiadineakhcclaa

/-
  dates: the map of what is known.
-/
namespace Go.Proofs.Ytiadineakhcclaa
open Go.RowKit Go.Deep Go.Maps
set_option linter.unusedVariables false
set_option linter.unusedSimpArgs false

theorem mlaw : Keyed Try.prog 3 := int_keyed Try.underlying3
theorem mzero (w : World) : (zeroValue 3).run Try.prog w = .ok (.int .i64 0) w := by kernel_rfl
theorem mkey (S : Nat) (h : S < 2 ^ 60) : keyOf Try.prog 3 (.int .i64 (S : Nat)) = some (.int .i64 (S : Nat)) := keyOf_int_mk Try.underlying3 (WalkArith.wf_i64 (by omega))

/-- Block b is a map of at most c entries; what it holds at a set is right. -/
def KnownM (w : World) (b : Nat) (W : Nat → Option Int) (c : Nat) : Prop :=
  ∃ D : DataW Unit, w.ownsMap Try.prog 3 (plainElem Try.prog 3) b c D ∧ IsMap D ∧ ∀ S : Nat, Maps.has D (.int .i64 (S : Nat)) = true → ∃ x : Int, D.atKey (.int .i64 (S : Nat)) (.lit (.int .i64 0)) = .lit (.int .i64 x) ∧ W S = some x
theorem KnownM.made (w : World) (W : Nat → Option Int) : KnownM (w.alloc (.map #[] 0)) w.heap.size W 0 :=
  ⟨.map [], World.ownsMap_made _ _ _ _, ⟨[], rfl⟩, fun S h => by simp [Maps.has] at h⟩
theorem KnownM.kept {w w' : World} {b : Nat} {W : Nat → Option Int} {c : Nat} (h : KnownM w b W c) {row : Option Nat} (hg : w.grownBy w' row) (hne : some b ≠ row) : KnownM w' b W c :=
  let ⟨D, h1, h2, h3⟩ := h
  ⟨D, h1.kept hg hne, h2, h3⟩
theorem KnownM.alloc {w : World} {b : Nat} {W : Nat → Option Int} {c : Nat} (h : KnownM w b W c) (o : Obj) : KnownM (w.alloc o) b W c :=
  let ⟨D, h1, h2, h3⟩ := h
  ⟨D, h1.alloc o, h2, h3⟩
theorem KnownM.drewN {w : World} {b : Nat} {W : Nat → Option Int} {c : Nat} (h : KnownM w b W c) (q : Nat) : KnownM (w.drewN q) b W c :=
  h.kept (row := none) ⟨rfl, rfl, rfl, Nat.le_refl _, fun _ _ _ => rfl⟩ (by simp)
theorem KnownM.lt {w : World} {b : Nat} {W : Nat → Option Int} {c : Nat} (h : KnownM w b W c) : b < w.heap.size :=
  let ⟨D, h1, _, _⟩ := h
  h1.lt
theorem known_put {w' : World} {b c : Nat} {D : DataW Unit} {W : Nat → Option Int} {S : Nat} {x : Int} (hown : w'.ownsMap Try.prog 3 (plainElem Try.prog 3) b (c + 1) (D.put (.int .i64 (S : Nat)) (.lit (.int .i64 x)))) (hm : IsMap D)
    (hD : ∀ S : Nat, Maps.has D (.int .i64 (S : Nat)) = true → ∃ x : Int, D.atKey (.int .i64 (S : Nat)) (.lit (.int .i64 0)) = .lit (.int .i64 x) ∧ W S = some x) (hW : W S = some x) : KnownM w' b W (c + 1) := by
  refine ⟨_, hown, hm.put _ _, fun T hT => ?_⟩
  by_cases e : T = S
  · subst e
    exact ⟨x, atKey_put_same hm (by trivial) _ _, hW⟩
  · have hne : (Lit.int .i64 (T : Nat) : Lit) ≠ .int .i64 (S : Nat) := fun h => e (by injection h with _ h; omega)
    rw [has_put_other hne] at hT
    obtain ⟨y, h1, h2⟩ := hD T hT
    exact ⟨y, by rw [atKey_put_other hne]; exact h1, h2⟩
/-- What is known of a set of n jobs. -/
def knownW (L : List J4) (B : Nat → Nat) (S : Nat) : Option Int := worstF L B (L.length - cardF L.length S) S
/-- The worst's loop over the time of a set. -/
def atT (L : List J4) (S : Nat) : Nat → Int := sumF (fun i => if S.testBit i = true then (L.getD i j0).t else 0)
theorem atT_bd {L : List J4} (hL : JobsOk L) (S : Nat) : ∀ k, k ≤ L.length → 0 ≤ atT L S k ∧ atT L S k ≤ 20 * k
  | 0, _ => ⟨Int.le_refl _, by simp [atT, sumF]⟩
  | k + 1, hk => by
      have h1 := atT_bd hL S k (by omega)
      have h2 := hL.at_ k (by omega)
      have e : atT L S (k + 1) = atT L S k + if S.testBit k = true then (L.getD k j0).t else 0 := rfl
      rw [e]
      split <;> (push_cast; omega)
theorem grown_jobs {w w' : World} {row : Option Nat} {B : Nat} {A : Option Addr} {L : List J4} (hA : JobsA w B A L) (hg : w.grownBy w' row) (hne : ∀ b o, A = some ⟨b, o, none⟩ → some b ≠ row) : JobsA w' w'.heap.size A L := fun i hi => by
  obtain ⟨b, o, e, hb, h1, h2, h3, h4⟩ := hA i hi
  have hn : ∀ x, some (⟨b, x, none⟩ : Addr).block ≠ row := fun x => hne b o e
  exact ⟨b, o, e, Nat.lt_of_lt_of_le (cell_lt h1) hg.size, hg.cell h1 (hn _), hg.cell h2 (hn _), hg.cell h3 (hn _), hg.cell h4 (hn _)⟩
theorem grown_ints {w w' : World} {row : Option Nat} {B : Nat} {A : Option Addr} {l : List Int} (hA : IntsA w B A l) (hg : w.grownBy w' row) (hne : ∀ b o, A = some ⟨b, o, none⟩ → some b ≠ row) : IntsA w' w'.heap.size A l := fun i hi => by
  obtain ⟨b, o, e, hb, h1⟩ := hA i hi
  exact ⟨b, o, e, Nat.lt_of_lt_of_le (cell_lt h1) hg.size, hg.cell h1 (hne b o e)⟩
end Go.Proofs.Ytiadineakhcclaa

/-
  dates: worst, by induction on the jobs to come.
-/
namespace Go.Proofs.Ytiadineakhcclaa
open Go.RowKit Go.Deep Go.Maps
set_option linter.unusedVariables false
set_option linter.unusedSimpArgs false

def FW (o : Option Int) (f : Bool) (x : Int) : Prop := (o = none ∧ f = false ∧ x = 0) ∨ (o = some x ∧ f = true)
def WPost (L : List J4) (bl : List Nat) (b0 d S cnt : Nat) (w : World) (e : Ending) (w' : World) : Prop :=
  ∃ (x : Int) (f : Bool), e = .returned (.tuple #[.int .i64 x, .bool f]) ∧ Hid (FW (worstF L (fun i => bl.getD i 0) d S) f x) ∧ w.grownBy w' (some b0) ∧ ∃ c', c' ≤ cnt + 9 ^ d ∧ Hid (KnownM w' b0 (knownW L (fun i => bl.getD i 0)) c')
theorem drewN_grown {w w' : World} {row : Option Nat} (h : w.grownBy w' row) (q : Nat) : w.grownBy (w'.drewN q) row := ⟨h.os, h.tape, h.output, h.size, h.block⟩
theorem alloc_grown {w w' : World} {row : Option Nat} (h : w.grownBy w' row) (o : Obj) : w.grownBy (w'.alloc o) row := h.trans (World.grownBy_alloc _ o _)
set_option maxRecDepth 100000 in
set_option maxHeartbeats 6400000 in
theorem worst_d (A : Option Addr) (n c : Nat) (L : List J4) (BA : Option Addr) (bc : Nat) (bl : List Nat) (b0 : Nat) (hn : L.length = n) (hL : JobsOk L) (hbl : bl.length = n) (hb8 : ∀ i, i < n → bl.getD i 0 < 256)
    (hAb : ∀ b o, A = some ⟨b, o, none⟩ → some b ≠ some b0) (hBb : ∀ b o, BA = some ⟨b, o, none⟩ → some b ≠ some b0) : ∀ (d S cnt : Nat) (w : World), S < 2 ^ n → cardF n S + d = n → cnt + 9 ^ d ≤ 1000000000000 → JobsA w w.heap.size A L → IntsA w w.heap.size BA (up bl) → KnownM w b0 (knownW L (fun i => bl.getD i 0)) cnt →
    Calls Try.prog 67 #[.slice A n c, .int .i64 (S : Nat), .slice BA n bc, .map (some b0)] w (WPost L bl b0 d S cnt w) := by
  have h8 : n ≤ 8 := by rw [← hn]; exact hL.le
  have HN := hide hn
  have HL := hide hL
  have HBL := hide hbl
  have HB8 := hide hb8
  have HAb := hide hAb
  have HBb := hide hBb
  clear hn hL hbl hb8 hAb hBb
  intro d
  induction d with
  | zero =>
    intro S cnt w hS hc hcn hA hB hK
    have hSf : S = 2 ^ n - 1 := (card_full hS).1 (by omega)
    have hfull : wrap64 (wrap64 (2 ^ n) - 1) = ((2 ^ n - 1 : Nat) : Int) := full_nat n (by omega)
    rw [← hSf] at hfull
    have HK := hide hK
    clear hA hB hK hSf hS hc
    go_enter Try.func67, Try.ntmps67
    go_wp2
    go_ret2
    exact ⟨-1000, true, rfl, hide (.inr ⟨rfl, rfl⟩), ⟨rfl, rfl, rfl, Nat.le_refl _, fun _ _ _ => rfl⟩, cnt, by omega, HK⟩
  | succ d ih =>
    intro S cnt w hS hc hcn hA hB hK
    have hS8 : S < 256 := Nat.lt_of_lt_of_le hS (pow256 h8)
    have hS60 : S < 2 ^ 60 := Nat.lt_trans hS8 (by decide)
    have hS62 : S < 2 ^ 62 := Nat.lt_trans hS8 (by decide)
    have hSn : S ≠ 2 ^ n - 1 := fun e => by have := (card_full hS).2 e; omega
    have hfull : wrap64 (wrap64 (2 ^ n) - 1) = ((2 ^ n - 1 : Nat) : Int) := full_nat n (by omega)
    obtain ⟨FS, hFS⟩ : ∃ FS, FS = 2 ^ n - 1 := ⟨_, rfl⟩
    rw [← hFS] at hSn hfull
    have hne : ((S : Int) == (FS : Int)) = false := by simp; omega
    have hne2 : ¬ S = FS := hSn
    have HFS := hide hFS
    have HJ := hide (fun w' (hg : w.grownBy w' (some b0)) => grown_jobs hA hg HAb.out)
    have HI := hide (fun w' (hg : w.grownBy w' (some b0)) => grown_ints hB hg HBb.out)
    have HG0 : Hid (w.grownBy w (some b0)) := hide ⟨rfl, rfl, rfl, Nat.le_refl _, fun _ _ _ => rfl⟩
    have HIH := hide ih
    have HSn := hide hS
    have HC := hide hc
    have hWS : knownW L (fun i => bl.getD i 0) S = worstF L (fun i => bl.getD i 0) (d + 1) S := by rw [knownW, HN.out, show n - cardF n S = d + 1 by omega]
    have HWS := hide hWS
    have HWE : Hid (worstF L (fun i => bl.getD i 0) (d + 1) S = foldW L (fun i => bl.getD i 0) S (worstF L (fun i => bl.getD i 0) d) n) := hide (by rw [← HN.out]; rfl)
    obtain ⟨DD, hown, him, hD⟩ := hK
    have HOWN := hide hown
    have HIM := hide him
    have HDD := hide hD
    obtain ⟨P9, hP9⟩ : ∃ P9, P9 = 9 ^ d := ⟨_, rfl⟩
    have hP : 9 ^ (d + 1) = 9 * P9 := by rw [Nat.pow_succ, hP9, Nat.mul_comm]
    have hP1 : 1 ≤ P9 := by rw [hP9]; exact Nat.pow_pos (by decide)
    rw [hP] at hcn
    have HP := hide hP
    have HP9 := hide hP9
    clear hA hB ih hS hc hWS hown him hD hFS hP hP9 hSn
    cases hh : Maps.has DD (.int .i64 (S : Nat))
    · go_enter Try.func67, Try.ntmps67
      go_wp2_with (first
        | (at_lookup; refine wpList_lookup_own_ok_int _ rfl _ _ 102 rfl 3 3 .i64 mlaw Try.underlying102 Try.underlying3 (mzero _) b0 cnt DD rfl HOWN.out _ _ rfl (mkey S hS60) ?_; intro cc hat hwc; have HAT := hide hat; clear hat hwc))
      have HK0 : Hid (KnownM w b0 (knownW L (fun i => bl.getD i 0)) cnt) := hide ⟨DD, HOWN.out, HIM.out, HDD.out⟩
      clear HOWN HIM HDD hh
      go_loopw [12, 38] (fun v12 v38 wr => ∃ (k : Nat) (y : Int), k ≤ n ∧ v38 = .int .i64 k ∧ v12 = .int .i64 y ∧ Hid (y = atT L S k) ∧ Hid (KnownM wr b0 (knownW L (fun i => bl.getD i 0)) cnt) ∧ w.grownBy wr (some b0)) (fun _ v _ => n - (intOf v).toNat)
      case atStart => exact ⟨0, 0, Nat.zero_le _, rfl, rfl, hide rfl, HK0, HG0.out⟩
      case round =>
        obtain ⟨k, y, hk, rfl, rfl, HY, HK, hg⟩ := hrel
        by_cases hlt : k < n
        · obtain ⟨bj, oj, t, r, d0, u, rfl, hbj, hj0, hj1, hj2, hj3, hxj⟩ := (HJ.out _ hg).at_ (k := k) (by rw [HN.out]; exact hlt)
          have hkn : (k : Int) < (n : Int) := by omega
          have hdb := HL.out.at_ k (by rw [HN.out]; exact hlt)
          rw [hxj.out] at hdb
          simp only [] at hdb
          obtain ⟨hdb0, hdb1, _, _, _, _, _, _⟩ := hdb
          have hy := atT_bd HL.out S k (by rw [HN.out]; omega)
          rw [← HY.out] at hy
          have hkk : (k : Int) ≤ 8 := by omega
          obtain ⟨b, hb⟩ : ∃ b : Int, b = if S.testBit k = true then 1 else 0 := ⟨_, rfl⟩
          obtain ⟨p, hp⟩ : ∃ p : Int, p = if S.testBit k = true then t else 0 := ⟨_, rfl⟩
          have hbit : bits .and .i64 ((S : Int) / 2 ^ k) 1 = b := by rw [hb]; exact shr_bit S k hS62
          have hpb : 0 ≤ p ∧ p ≤ 20 := by rw [hp]; split <;> omega
          have hup : t * b = p := by rw [hb, hp]; split <;> omega
          have HM : Hid (IntKind.i64.wrap (t * b) = p) := by rw [hup, IntKind.wrap_i64]; exact hide (by omega)
          have HPP : Hid (IntKind.i64.wrap (y + p) = y + p) := by rw [IntKind.wrap_i64]; exact hide (by omega)
          have HYN : Hid (y + p = atT L S (k + 1)) := hide (by
            show _ = atT L S k + if S.testBit k = true then (L.getD k j0).t else 0
            rw [hxj.out, ← HY.out, hp])
          have HBW : Hid (∀ o q, w.grownBy ((wr.alloc o).drewN q) (some b0)) := fun o q => drewN_grown (alloc_grown hg o) q
          have hm := HM.out
          have hpp := HPP.out
          clear hxj hg hup hb hp
          go_wp2
          go_quiet (fail)
          go_wp2
          go_roundw
          case rel => exact ⟨k + 1, _, by omega, by go_num, rfl, HYN, hide ((HK.out.alloc _).drewN _), HBW.out _ _⟩
          case measure => simp [intOf] <;> omega
        · obtain rfl : n = k := by omega
          have HYS : Hid (y = atS L S) := by show y = _; rw [HY.out, atT, HN.out.symm]; rfl
          have hyb := atS_bd HL.out S
          rw [← HYS.out] at hyb
          have HGR := hide hg
          clear hg HY
          go_wp2
          go_loopw [15, 16, 55] (fun v15 v16 v55 wr => ∃ (k q c' : Nat) (x : Int) (f : Bool), k ≤ n ∧ v55 = .int .i64 k ∧ v15 = .int .i64 x ∧ v16 = .bool f ∧ c' ≤ cnt + q ∧ Hid (q = k * P9) ∧
            Hid (FW (foldW L (fun i => bl.getD i 0) S (worstF L (fun i => bl.getD i 0) d) k) f x) ∧
            Hid (KnownM wr b0 (knownW L (fun i => bl.getD i 0)) c') ∧ w.grownBy wr (some b0)) (fun _ _ v _ => n - (intOf v).toNat)
          case atStart => exact ⟨0, 0, cnt, 0, false, Nat.zero_le _, rfl, rfl, rfl, Nat.le_refl _, hide (by rw [Nat.zero_mul]), hide (.inl ⟨rfl, rfl, rfl⟩), HK, HGR.out⟩
          case round =>
            obtain ⟨k, q, c', x, f, hk, rfl, rfl, rfl, hcq, HQ, HF, HK2, hg⟩ := hrel
            obtain ⟨w2, rfl⟩ : ∃ w2 : World, w2 = wr := ⟨_, rfl⟩
            have hqk : q ≤ 8 * P9 := by rw [HQ.out]; exact Nat.mul_le_mul_right _ (by omega)
            have HG2 := hide hg
            by_cases hlt : k < n
            · have hq7 : q + P9 ≤ 8 * P9 := by
                have := HQ.out
                have h9 : (k + 1) * P9 ≤ 8 * P9 := Nat.mul_le_mul_right _ (by omega)
                rw [Nat.succ_mul, ← this] at h9; exact h9
              have HQ1 : Hid (q + P9 = (k + 1) * P9) := by show _ = _; rw [Nat.succ_mul, HQ.out]
              obtain ⟨bj, oj, t, r, d0, u, rfl, hbj, hj0, hj1, hj2, hj3, hxj⟩ := (HJ.out _ hg).at_ (k := k) (by rw [HN.out]; exact hlt)
              have hkn : (k : Int) < (n : Int) := by omega
              have hkk : (k : Int) ≤ 8 := by omega
              have hdb := HL.out.at_ k (by rw [HN.out]; exact hlt)
              rw [hxj.out] at hdb
              simp only [] at hdb
              obtain ⟨hdb0, hdb1, _, _, hdd0, hdd1, _, _⟩ := hdb
              have HXJ := hide hxj.out
              have hS1 := shr_test S k hS62
              have HFS1 : Hid (foldW L (fun i => bl.getD i 0) S (worstF L (fun i => bl.getD i 0) d) (k + 1) = _) := hide (show foldW L (fun i => bl.getD i 0) S (worstF L (fun i => bl.getD i 0) d) (k + 1) = _ from rfl)
              have HGA : Hid (∀ o, w.grownBy (w2.alloc o) (some b0)) := fun o => alloc_grown hg o
              clear hxj
              cases hbt : S.testBit k with
              | true =>
                rw [hbt] at hS1
                have hno : mayB (fun i => bl.getD i 0) S k = false := by unfold mayB; rw [hbt]; rfl
                have HF2 : Hid (FW (foldW L (fun i => bl.getD i 0) S (worstF L (fun i => bl.getD i 0) d) (k + 1)) f x) := by
                  show FW _ _ _
                  unfold foldW; rw [if_neg (by rw [hno]; decide)]; exact HF.out
                clear hbt hno hg
                go_wp2
                go_roundw
                case rel => exact ⟨k + 1, q + P9, c', x, f, by omega, by go_num, rfl, rfl, by omega, HQ1, HF2, hide (HK2.out.alloc _), HGA.out _⟩
                case measure => simp [intOf] <;> omega
              | false =>
                rw [hbt] at hS1
                obtain ⟨bb, ob, z0, rfl, hbb, hcb, hxb⟩ := (HI.out _ hg).at_ (k := k) (by rw [up_length, HBL.out]; exact hlt)
                have hz0 : z0 = ((bl.getD k 0 : Nat) : Int) := by have := hxb.out; rw [up_getD] at this; exact this.symm
                have hb9 := HB8.out k hlt
                obtain ⟨m, hm⟩ : ∃ m, m = bl.getD k 0 := ⟨_, rfl⟩
                rw [← hm] at hz0 hb9
                subst hz0
                have hand : bits BinOp.andNot IntKind.i64 (m : Int) (S : Int) = ((sdiff m S : Nat) : Int) := bandNot_nat m S (by omega) hS62
                obtain ⟨z, hz⟩ : ∃ z, z = sdiff m S := ⟨_, rfl⟩
                rw [← hz] at hand
                have HM := hide hm
                have HZ := hide hz
                clear hxb hm hz
                by_cases hz0 : z = 0
                · subst hz0
                  have hmay : mayB (fun i => bl.getD i 0) S k = true := by show (!S.testBit k && decide (sdiff (bl.getD k 0) S = 0)) = true; rw [hbt, ← HM.out, ← HZ.out]; rfl
                  have HMAY := hide hmay
                  have hk64 : k < 62 := by omega
                  obtain ⟨T, hT⟩ : ∃ T, T = S ||| 2 ^ k := ⟨_, rfl⟩
                  have hor : bits BinOp.or IntKind.i64 (S : Int) (wrap64 (2 ^ k)) = (T : Int) := by rw [shl_one k (by omega), hT]; exact bor_nat S _ hS62 (Nat.pow_lt_pow_right (by decide) hk64)
                  have hTn : T < 2 ^ n := by rw [hT]; exact or_lt HSn.out hlt
                  have hTc : cardF n T + d = n := by rw [hT, card_or hbt, if_pos hlt]; have := HC.out; omega
                  obtain ⟨w3, hw3⟩ : ∃ w3, w3 = w2.alloc (.cells #[.int .i64 t, .int .i64 r, .int .i64 d0, .int .i64 u] 48) := ⟨_, rfl⟩
                  have hbx : w3.heap[w2.heap.size]? = some (.cells #[.int .i64 t, .int .i64 r, .int .i64 d0, .int .i64 u] 48 (0, 0)) := by rw [hw3]; exact alloc_new _ _ _ rfl
                  have hg3 : w.grownBy w3 (some b0) := by rw [hw3]; exact alloc_grown hg _
                  have hk3 : KnownM w3 b0 (knownW L (fun i => bl.getD i 0)) c' := by rw [hw3]; exact HK2.out.alloc _
                  have hb0 : b0 ≠ w2.heap.size := by have := HK2.out.lt; omega
                  have HCALL := hide (HIH.out T c' w3 hTn hTc (by rw [← HP9.out]; omega) (HJ.out _ hg3) (HI.out _ hg3) hk3)
                  have HG3 := hide hg3
                  have HB0 := hide hb0
                  have HBX := hide hbx
                  have HW3 := hide hw3
                  have HTT := hide hT
                  clear hbt hmay hg hT hTn hTc hw3 hbx hg3 hk3 hb0 hb9
                  go_wp2_with fail
                  rw [← HW3.out]
                  refine (HCALL.out).mono ?_
                  rintro e w4 ⟨x2, f2, rfl, hx2, hg4, c2, hc2, HK4⟩
                  have q0 := hg4.cell (blk_cell HBX.out 0) (fun e => HB0.out (Option.some.inj e).symm)
                  have q2 := hg4.cell (blk_cell HBX.out 2) (fun e => HB0.out (Option.some.inj e).symm)
                  have HG4 := hide (HG3.out.trans hg4)
                  rw [← HP9.out] at hc2
                  clear hg4 HCALL
                  rcases hx2.out with ⟨h1, h2, h3⟩ | ⟨h1, h2⟩
                  · subst h2; subst h3
                    have HF2 : Hid (FW (foldW L (fun i => bl.getD i 0) S (worstF L (fun i => bl.getD i 0) d) (k + 1)) f x) := by
                      show FW _ _ _
                      unfold foldW; rw [if_pos HMAY.out, ← HTT.out, h1]; exact HF.out
                    clear h1 hx2
                    go_wp2
                    go_roundw
                    case rel => exact ⟨k + 1, q + P9, c2, x, f, by omega, by go_num, rfl, rfl, by omega, HQ1, HF2, HK4, HG4.out⟩
                    case measure => simp [intOf] <;> omega
                  · subst h2
                    have hxb := worst_bd HL.out _ _ _ h1
                    have hval : valJ L S k x2 = if x2 < y + t - d0 then y + t - d0 else x2 := by
                      unfold valJ; rw [HXJ.out, ← HYS.out]
                      show max x2 (y + t - d0) = _
                      split <;> omega
                    obtain ⟨V, hV⟩ : ∃ V, V = if x2 < y + t - d0 then y + t - d0 else x2 := ⟨_, rfl⟩
                    rw [← hV] at hval
                    have hVb : -1000 ≤ V ∧ V ≤ 1000 := by rw [hV]; split <;> omega
                    have HV := hide hV.symm
                    have HFK := HF
                    rcases HF.out with ⟨h3, h4, h5⟩ | ⟨h3, h4⟩
                    · subst h4; subst h5
                      have HF2 : Hid (FW (foldW L (fun i => bl.getD i 0) S (worstF L (fun i => bl.getD i 0) d) (k + 1)) true V) := by
                        show FW _ _ _
                        unfold foldW; rw [if_pos HMAY.out, ← HTT.out, h1]; simp only []; rw [h3]; simp only []; rw [hval]; exact .inr ⟨rfl, rfl⟩
                      have hvv := HV.out
                      clear h1 hx2 h3 hval hV HF HFK
                      go_wp2
                      go_roundw
                      case rel => exact ⟨k + 1, q + P9, c2, V, true, by omega, by go_num, rfl, rfl, by omega, HQ1, HF2, HK4, HG4.out⟩
                      case measure => simp [intOf] <;> omega
                    · subst h4
                      have hvv := HV.out
                      by_cases hlt3 : V < x
                      · have HF2 : Hid (FW (foldW L (fun i => bl.getD i 0) S (worstF L (fun i => bl.getD i 0) d) (k + 1)) true V) := by
                          show FW _ _ _
                          unfold foldW; rw [if_pos HMAY.out, ← HTT.out, h1]; simp only []; rw [h3]; simp only []; rw [hval, if_pos hlt3]; exact .inr ⟨rfl, rfl⟩
                        have hdl : decide (V < x) = true := decide_eq_true hlt3
                        clear h1 hx2 h3 hval hV HF HFK
                        go_wp2
                        go_roundw
                        case rel => exact ⟨k + 1, q + P9, c2, V, true, by omega, by go_num, rfl, rfl, by omega, HQ1, HF2, HK4, HG4.out⟩
                        case measure => simp [intOf] <;> omega
                      · have HF2 : Hid (FW (foldW L (fun i => bl.getD i 0) S (worstF L (fun i => bl.getD i 0) d) (k + 1)) true x) := by
                          show FW _ _ _
                          unfold foldW; rw [if_pos HMAY.out, ← HTT.out, h1]; simp only []; rw [h3]; simp only []; rw [hval, if_neg hlt3]; exact .inr ⟨rfl, rfl⟩
                        have hdl : decide (V < x) = false := decide_eq_false hlt3
                        clear h1 hx2 h3 hval hV HF HFK
                        go_wp2
                        go_roundw
                        case rel => exact ⟨k + 1, q + P9, c2, x, true, by omega, by go_num, rfl, rfl, by omega, HQ1, HF2, HK4, HG4.out⟩
                        case measure => simp [intOf] <;> omega
                · have hzb : ((z : Int) == 0) = false := by simp; omega
                  have hno : mayB (fun i => bl.getD i 0) S k = false := by
                    show (!S.testBit k && decide (sdiff (bl.getD k 0) S = 0)) = false
                    rw [← HM.out, ← HZ.out, hbt]; simp [hz0]
                  have HF2 : Hid (FW (foldW L (fun i => bl.getD i 0) S (worstF L (fun i => bl.getD i 0) d) (k + 1)) f x) := by
                    show FW _ _ _
                    unfold foldW; rw [if_neg (by rw [hno]; decide)]; exact HF.out
                  clear hbt hno hg hb9
                  go_wp2
                  go_roundw
                  case rel => exact ⟨k + 1, q + P9, c', x, f, by omega, by go_num, rfl, rfl, by omega, HQ1, HF2, hide (HK2.out.alloc _), HGA.out _⟩
                  case measure => simp [intOf] <;> omega
            · obtain rfl : n = k := by omega
              have HFN := HF
              rw [← HWE.out] at HFN
              rcases HFN.out with ⟨h3, h4, h5⟩ | ⟨h3, h4⟩
              · subst h4; subst h5
                clear h3 hg
                go_wp2
                go_ret2
                exact ⟨0, false, rfl, HFN, HG2.out, c', by rw [HP.out]; omega, HK2⟩
              · subst h4
                have hxb := worst_bd HL.out _ _ _ h3
                have hwf : (Lit.int .i64 x).wf = true := WalkArith.wf_i64 (by omega)
                have HWX : Hid (knownW L (fun i => bl.getD i 0) S = some x) := hide (HWS.out.trans h3)
                obtain ⟨D2, hown2, him2, hD2⟩ := HK2.out
                have HOWN2 := hide hown2
                have HIM2 := hide him2
                have HD2 := hide hD2
                clear h3 hg hown2 him2 hD2 HF
                go_wp2_with (first
                  | (at_mapUpdate; refine wpList_mapUpdate_own _ rfl _ _ _ 102 rfl 3 3 mlaw Try.underlying102 _ b0 c' D2 rfl HOWN2.out (by unfold maxLen; omega) _ _ _ rfl rfl (mkey S hS60) _ [] (plainElem_int Try.underlying3 hwf) ?_; intro w5 hown5 hgrow5; have HOWN5 := hide hown5; have HG5 := hide (HG2.out.trans hgrow5); clear hown5 hgrow5))
                go_ret2
                exact ⟨x, true, rfl, HFN, HG5.out, c' + 1, by rw [HP.out]; omega, hide (known_put HOWN5.out HIM2.out HD2.out HWX.out)⟩
    · obtain ⟨x, hx1, hx2⟩ := HDD.out S hh
      have HX1 := hide hx1
      have HX2 := hide hx2
      clear hx1 hx2
      go_enter Try.func67, Try.ntmps67
      go_wp2_with (first
        | (at_lookup; refine wpList_lookup_own_ok_int _ rfl _ _ 102 rfl 3 3 .i64 mlaw Try.underlying102 Try.underlying3 (mzero _) b0 cnt DD rfl HOWN.out _ _ rfl (mkey S hS60) ?_; intro cc hat hwc; have HAT := hide hat; clear hat hwc))
      go_ret2
      have e1 : cc = x := by
        have h1 := HAT.out
        rw [HX1.out] at h1
        injection h1 with h1
        injection h1 with _ h1
        exact h1.symm
      subst e1
      exact ⟨cc, true, rfl, hide (.inr ⟨by rw [← HWS.out]; exact HX2.out, rfl⟩), HG0.out, cnt, Nat.le_add_right _ _, hide ⟨DD, HOWN.out, HIM.out, HDD.out⟩⟩
end Go.Proofs.Ytiadineakhcclaa

/-
  dates: Least.
-/
namespace Go.Proofs.Ytiadineakhcclaa
open Go.RowKit Go.Deep Go.Maps
set_option linter.unusedVariables false
set_option linter.unusedSimpArgs false

theorem worstF_congr {L : List J4} {B B' : Nat → Nat} (h : ∀ i, i < L.length → B i = B' i) : ∀ d S, worstF L B d S = worstF L B' d S
  | 0, S => rfl
  | d + 1, S => by
      have hk : ∀ k, k ≤ L.length → foldW L B S (worstF L B d) k = foldW L B' S (worstF L B' d) k := fun k => by
        induction k with
        | zero => intro _; rfl
        | succ k ih =>
          intro hk
          have e1 : mayB B S k = mayB B' S k := by unfold mayB; rw [h k (by omega)]
          unfold foldW
          rw [e1, ih (by omega), worstF_congr h d]
      exact hk _ (Nat.le_refl _)
theorem gr_congr {L : List J4} {B B' : Nat → Nat} (h : ∀ i, i < L.length → B i = B' i) : ∀ d S a v, gr L B d S a v = gr L B' d S a v
  | 0, S, a, v => rfl
  | d + 1, S, a, v => by
      have e : (List.range L.length).find? (nextB L B d S a v) = (List.range L.length).find? (nextB L B' d S a v) := by
        have : ∀ l : List Nat, (∀ x ∈ l, x < L.length) → l.find? (nextB L B d S a v) = l.find? (nextB L B' d S a v) := fun l => by
          induction l with
          | nil => intro _; rfl
          | cons x l ih =>
            intro hl
            have e1 : nextB L B d S a v x = nextB L B' d S a v x := by
              unfold nextB mayB
              rw [h x (hl x (by simp)), worstF_congr h d]
            rw [List.find?_cons, List.find?_cons, e1, ih (fun y hy => hl y (by simp [hy]))]
        exact this _ (fun x hx => List.mem_range.1 hx)
      unfold gr
      rw [e]
      cases (List.range L.length).find? (nextB L B' d S a v) with
      | none => rfl
      | some i => simp only []; rw [gr_congr h d]
set_option maxHeartbeats 1600000 in
theorem least_arg (A : Option Addr) (n c : Nat) (L : List J4) (PA : Option Addr) (m pc : Nat) (P : List (Int × Int)) (w : World) (hn : L.length = n) (hlen : n ≤ 9223372036854775807) (hm : P.length = m) (hmm : m ≤ 9223372036854775807) (hA : JobsA w w.heap.size A L) (hP : PrsA w w.heap.size PA P) (hv : jobsB L = false ∨ jobsB L = true ∧ okBef P n = false) :
    Calls Try.prog 40 #[.slice A n c, .slice PA m pc] w fun e w' => e = .returned (.tuple #[.slice none 0 0, .int .i64 0, .int .i64 2]) ∧ Below w.heap.size w w' := by
  have HV := hide (jvalid_any A n c L w hn hlen hA)
  rcases hv with hv | ⟨hv, ho⟩
  · rw [hv] at HV
    clear hv hA hn hP hm
    go_enter Try.func40, Try.ntmps40
    go_wp2_with (first
      | (go_at_call 54; refine (HV.out).mono ?_; rintro e w1 ⟨rfl, hb1⟩; have HB1 := hide hb1; clear hb1))
    exact bodyPost_ret (v := .tuple #[.slice none 0 0, .int .i64 0, .int .i64 2]) (by simp [results, Try.results40, go_sem]) rfl ⟨rfl, HB1.out⟩
  · rw [hv] at HV
    have hL := jobsB_iff.1 hv
    have HBE := hide (fun w1 (hb : Below w.heap.size w w1) => befores_no A n c PA m pc P w1 (by rw [← hn]; exact hL.pos) (by rw [← hn]; exact hL.le) hm hmm (hP.next hb) ho)
    clear hv hA hn hP hm ho hL
    go_enter Try.func40, Try.ntmps40
    go_wp2_with (first
      | (go_at_call 54; refine (HV.out).mono ?_; rintro e w1 ⟨rfl, hb1⟩; have HB1 := hide hb1; clear hb1)
      | (go_at_call 66; refine (HBE.out _ HB1.out).mono ?_; rintro e w2 ⟨rfl, hb2⟩; have HB2 := hide (HB1.out.trans (hb2.mono HB1.out.size)); clear hb2))
    exact bodyPost_ret (v := .tuple #[.slice none 0 0, .int .i64 0, .int .i64 2]) (by simp [results, Try.results40, go_sem]) rfl ⟨rfl, HB2.out⟩
theorem pow9 {d : Nat} (h : d ≤ 8) : 9 ^ d ≤ 43046721 := Nat.pow_le_pow_right (n := 9) (by decide) h
/-- What the greedy loop holds: what is laid, and what is to come. -/
structure GrS (L : List J4) (B : Nat → Nat) (r : Int) (l : List Nat) (S d : Nat) (a : Int) : Prop where
  bg : Begun L B l
  set_ : S = maskL l
  at_ : a = atS L S
  rest : l.length + d = L.length
  eq_ : l ++ gr L B d S a r = gr L B L.length 0 0 r
  ok : ∃ y, worstF L B d S = some y ∧ y ≤ r
theorem GrS.next {L : List J4} {B : Nat → Nat} {r : Int} {l : List Nat} {S d i : Nat} {a : Int} (h : GrS L B r l S (d + 1) a) (hi : i < L.length) (hp : nextB L B d S a r i = true) (hno : ∀ j, j < i → nextB L B d S a r j = false) :
    GrS L B r (l ++ [i]) (S ||| 2 ^ i) d (a + (L.getD i j0).t) := by
  obtain ⟨y, hy1, hy2⟩ := h.ok
  obtain ⟨k1, k2, x, k3, k4⟩ := next_iff.1 hp
  have hbt := may_bit k1
  refine ⟨h.bg.snoc hi (by rw [← h.set_]; exact k1), by rw [maskL_snoc, h.set_], by rw [atS_or hbt hi, h.at_], by have := h.rest; rw [List.length_append, List.length_singleton]; omega, ?_, x, k3, k4⟩
  rw [← h.eq_]
  have hat := h.at_
  subst hat
  obtain ⟨i2, y2, g1, g2, g3, g4, g5, g6⟩ := gr_step hy1 hy2
  have e : i2 = i := by
    rcases Nat.lt_trichotomy i2 i with e | e | e
    · rw [hno i2 e] at g2; cases g2
    · exact e
    · rw [g3 i e] at hp; cases hp
  subst e
  rw [g6, List.append_assoc, atS_or hbt hi]
  rfl
theorem GrS.some_ {L : List J4} {B : Nat → Nat} {r : Int} {l : List Nat} {S d : Nat} {a : Int} (h : GrS L B r l S (d + 1) a) : ∃ i, i < L.length ∧ nextB L B d S a r i = true := by
  obtain ⟨y, hy1, hy2⟩ := h.ok
  have hat := h.at_
  subst hat
  obtain ⟨i2, y2, g1, g2, _⟩ := gr_step hy1 hy2
  exact ⟨i2, g1, g2⟩
end Go.Proofs.Ytiadineakhcclaa

/-
  dates: Least of valid jobs and befores.
-/
namespace Go.Proofs.Ytiadineakhcclaa
open Go.RowKit Go.Deep Go.Maps
set_option linter.unusedVariables false
set_option linter.unusedSimpArgs false

def LeastPost (L : List J4) (P : List (Int × Int)) (n : Nat) (w : World) (e : Ending) (w' : World) : Prop :=
  (worstF L (befB P n) n 0 = none ∧ e = .returned (.tuple #[.slice none 0 0, .int .i64 0, .int .i64 6]) ∨ ∃ r Z zc, worstF L (befB P n) n 0 = some r ∧ e = .returned (.tuple #[.slice Z n zc, .int .i64 r, .int .i64 0]) ∧ n ≤ zc ∧
      IntsA w' w'.heap.size Z (up (gr L (befB P n) n 0 0 r))) ∧ Below w.heap.size w w'
theorem below_grown {w w1 w' : World} {b0 : Nat} (h : Below w.heap.size w w1) (hb0 : w.heap.size ≤ b0) (hg : w1.grownBy w' (some b0)) : Below w.heap.size w w' := h.grown hg h.size (fun g hg => by injection hg with hg; omega)
set_option maxRecDepth 100000 in
set_option maxHeartbeats 6400000 in
theorem least_yes (A : Option Addr) (n c : Nat) (L : List J4) (PA : Option Addr) (m pc : Nat) (P : List (Int × Int)) (w : World) (hn : L.length = n) (hlen : n ≤ 9223372036854775807) (hm : P.length = m) (hmm : m ≤ 9223372036854775807) (hA : JobsA w w.heap.size A L) (hP : PrsA w w.heap.size PA P) (hv : jobsB L = true) (ho : okBef P n = true) :
    Calls Try.prog 40 #[.slice A n c, .slice PA m pc] w (LeastPost L P n w) := by
  have hmk := @run_makeMap Try.prog
  have hL := jobsB_iff.1 hv
  have h8 : n ≤ 8 := by rw [← hn]; exact hL.le
  have h1 : 1 ≤ n := by rw [← hn]; exact hL.pos
  have HV := hide (jvalid_any A n c L w hn hlen hA)
  rw [hv] at HV
  have HBE := hide (fun w1 (hb : Below w.heap.size w w1) => befores_yes A n c PA m pc P w1 h1 h8 hm hmm (hP.next hb) ho)
  have HJ0 := hide (fun w1 (hb : Below w.heap.size w w1) => hA.next hb)
  have hB : ∀ i, i < L.length → (befL P n).getD i 0 = befB P n i := fun i hi => befL_getD (by rw [← hn]; exact hi)
  have hw1 := worstF_congr (L := L) (B := fun i => (befL P n).getD i 0) (B' := befB P n) hB
  have hg1 := gr_congr (L := L) (B := fun i => (befL P n).getD i 0) (B' := befB P n) hB
  have HBL : Hid ((befL P n).length = n) := befL_len P n
  have HB8 : Hid (∀ i, i < n → (befL P n).getD i 0 < 256) := fun i hi => by rw [befL_getD hi]; exact Nat.lt_of_lt_of_le (befB_lt _ _ _) (pow256 h8)
  have hAb : ∀ b o, A = some ⟨b, o, none⟩ → b < w.heap.size := fun b o e => by
    obtain ⟨b1, o1, e1, h2, _⟩ := hA 0 (by omega)
    rw [e] at e1
    injection e1 with e1; injection e1 with e2
    omega
  have HAB := hide hAb
  have HN := hide hn
  have HL := hide hL
  obtain ⟨bl, hbl⟩ : ∃ bl, bl = befL P n := ⟨_, rfl⟩
  have HPO : Hid (∀ e w', ((worstF L (fun i => bl.getD i 0) n 0 = none ∧ e = .returned (.tuple #[.slice none 0 0, .int .i64 0, .int .i64 6]) ∨ ∃ r Z zc, worstF L (fun i => bl.getD i 0) n 0 = some r ∧ e = .returned (.tuple #[.slice Z n zc, .int .i64 r, .int .i64 0]) ∧ n ≤ zc ∧
      IntsA w' w'.heap.size Z (up (gr L (fun i => bl.getD i 0) n 0 0 r))) ∧ Below w.heap.size w w') → LeastPost L P n w e w') := fun e w' h => by
    rw [hbl] at h
    simp only [hw1, hg1] at h
    exact h
  rw [← hbl] at HBE HBL HB8
  clear hv ho hn hL hA hP hm hB hw1 hg1 hAb hbl
  go_enter Try.func40, Try.ntmps40
  go_wp2_with (first
    | (go_at_call 54; refine (HV.out).mono ?_; rintro e w1 ⟨rfl, hb1⟩; have HB1 := hide hb1; clear hb1)
    | (go_at_call 66; refine (HBE.out _ HB1.out).mono ?_; rintro e w2 ⟨BA, bc, rfl, hI2, hlo2, hb2⟩; have HI2 := hide hI2; have HLO2 := hide hlo2; have HS1 := hide HB1.out.size; have HB2 := hide (HB1.out.trans (hb2.mono HB1.out.size)); clear hI2 hlo2 hb2))
  obtain ⟨w3, hw3⟩ : ∃ w3, w3 = w2.alloc (.map #[] 0) := ⟨_, rfl⟩
  obtain ⟨b0, hb0⟩ : ∃ b0, b0 = w2.heap.size := ⟨_, rfl⟩
  have HK3 : Hid (KnownM w3 b0 (knownW L (fun i => bl.getD i 0)) 0) := by show KnownM _ _ _ _; rw [hw3, hb0]; exact KnownM.made w2 _
  have HB23 : Hid (Below w2.heap.size w2 w3) := by subst hw3; exact (Below.refl _ _).alloc (Nat.le_refl _) _
  have HB3 := hide (HB2.out.trans (HB23.out.mono HB2.out.size))
  have HWB : Hid (w.heap.size ≤ b0) := by show _ ≤ _; rw [hb0]; exact HB2.out.size
  have HAN : Hid (∀ b o, A = some ⟨b, o, none⟩ → some b ≠ some b0) := fun b o e h => by have := HAB.out b o e; have := HWB.out; injection h with h; omega
  have HBN : Hid (∀ b o, BA = some ⟨b, o, none⟩ → some b ≠ some b0) := fun b o e h => by
    obtain ⟨b1, o1, e1, h2, _⟩ := HI2.out 0 (by rw [up_length, HBL.out]; omega)
    rw [e] at e1
    injection e1 with e1; injection e1 with e2
    injection h with h
    omega
  have HJ3 := hide (HJ0.out _ HB3.out)
  have HI3 := hide (HI2.out.next HB23.out)
  have HWO := hide (worst_d A n c L BA bc bl b0 HN.out HL.out HBL.out HB8.out HAN.out HBN.out)
  have HC3 := hide (HWO.out n 0 0 w3 (Nat.two_pow_pos n) (by rw [cardF_zero' n, Nat.zero_add]) (by have := pow9 h8; omega) HJ3.out HI3.out HK3.out)
  rw [← hb0] at *
  have HW3 := hide hw3
  have HB0 := hide hb0
  clear hw3 hb0 hmk
  go_wp2_with fail
  rw [← HW3.out]
  refine (HC3.out).mono ?_
  rintro e w4 ⟨r, f, rfl, hf, hg4, cnt, hcnt, HK4⟩
  have HG4 := hide hg4
  have HF := hide hf.out
  have HJ := hide (fun w' (hg : w4.grownBy w' (some b0)) => grown_jobs HJ3.out (hg4.trans hg) HAN.out)
  have HI := hide (fun w' (hg : w4.grownBy w' (some b0)) => grown_ints HI3.out (hg4.trans hg) HBN.out)
  have HBG := hide (fun w' (hg : w4.grownBy w' (some b0)) => below_grown HB3.out HWB.out (hg4.trans hg))
  have HGG0 : Hid (w4.grownBy w4 (some b0)) := hide ⟨rfl, rfl, rfl, Nat.le_refl _, fun _ _ _ => rfl⟩
  have hb04 : b0 < w4.heap.size := HK4.out.lt
  clear hf hg4 HC3
  rcases HF.out with ⟨hf1, hf2, hf3⟩ | ⟨hf1, hf2⟩
  · subst hf2; subst hf3
    have HF1 := hide hf1
    clear hf1
    go_wp2
    exact bodyPost_ret (v := .tuple #[.slice none 0 0, .int .i64 0, .int .i64 6]) (by simp [results, Try.results40, go_sem]) rfl (HPO.out _ _ ⟨.inl ⟨HF1.out, rfl⟩, HBG.out _ HGG0.out⟩)
  · subst hf2
    have hrb := worst_bd HL.out _ _ _ hf1
    have HF1 := hide hf1
    have HG0 : Hid (GrS L (fun i => bl.getD i 0) r [] 0 n 0) := hide ⟨Begun.nil_ _ _, rfl, (atS_zero L).symm, by rw [HN.out]; exact Nat.zero_add _, by rw [List.nil_append, HN.out], r, hf1, Int.le_refl _⟩
    have hcnt1 : cnt ≤ 43046721 := by have := pow9 h8; omega
    clear hf1
    go_wp2
    go_loopw [12, 13, 14] (fun v12 v13 v14 wr => ∃ (l : List Nat) (q S d cn c' : Nat) (X : Option Addr) (a : Int), v12 = .slice X q c' ∧ v13 = .int .i64 (S : Nat) ∧ v14 = .int .i64 a ∧ q ≤ c' ∧ q + d = n ∧ Hid (l.length = q) ∧ Hid (GrS L (fun i => bl.getD i 0) r l S d a) ∧ cn ≤ 43046721 * (1 + 8 * q) ∧
      Hid (KnownM wr b0 (knownW L (fun i => bl.getD i 0)) cn) ∧ Hid (wr.ownsRow w4.heap.size 3 1 (.slice X q c') q ((up l).map (Value.int .i64))) ∧ w4.grownBy wr (some b0)) (fun _ _ v _ => 400 - (intOf v).toNat)
    case atStart => exact ⟨[], 0, 0, n, cnt, 0, none, 0, rfl, rfl, rfl, Nat.le_refl _, Nat.zero_add _, hide rfl, HG0, by omega, HK4, hide (World.ownsRow_nil _ _ _ _), HGG0.out⟩
    case round =>
      obtain ⟨l, q, S, d, cn, c', X, a, rfl, rfl, rfl, hqc, hqd, HLL, HGS, hcn, HK, HOW, hg⟩ := hrel
      obtain ⟨wo, rfl⟩ : ∃ wo : World, wo = wr := ⟨_, rfl⟩
      have hSn : S < 2 ^ n := by rw [HGS.out.set_, ← HN.out]; exact HGS.out.bg.lt
      have hS8 : S < 256 := Nat.lt_of_lt_of_le hSn (pow256 h8)
      have hS62 : S < 2 ^ 62 := Nat.lt_trans hS8 (by decide)
      have hSc : cardF n S = q := by rw [HGS.out.set_, ← HN.out, HGS.out.bg.card, HLL.out]
      have HSN := hide hSn
      have HSC := hide hSc
      have hab := atS_bd HL.out S
      rw [← HGS.out.at_] at hab
      by_cases hqn : q < n
      · obtain ⟨d, rfl⟩ : ∃ e, d = e + 1 := ⟨d - 1, by omega⟩
        have hqi : (q : Int) < (n : Int) := by omega
        have hd8 : d ≤ 8 := by omega
        have hP9 := pow9 hd8
        have HGO := hide hg
        clear hg hSn hSc
        go_wp2
        go_loopw [12, 13, 14, 48] (fun v12 v13 v14 v48 wr => ∃ (k cn : Nat), k ≤ n ∧ v48 = .int .i64 k ∧ v12 = .slice X q c' ∧ v13 = .int .i64 (S : Nat) ∧ v14 = .int .i64 a ∧ cn ≤ 43046721 * (1 + 8 * q + k) ∧ Hid (∀ j, j < k → nextB L (fun i => bl.getD i 0) d S a r j = false) ∧
          Hid (KnownM wr b0 (knownW L (fun i => bl.getD i 0)) cn) ∧ Hid (wr.ownsRow w4.heap.size 3 1 (.slice X q c') q ((up l).map (Value.int .i64))) ∧ w4.grownBy wr (some b0)) (fun _ _ _ v _ => n - (intOf v).toNat)
        case atStart => exact ⟨0, cn, Nat.zero_le _, rfl, rfl, rfl, rfl, by omega, hide (fun j hj => by omega), HK, HOW, HGO.out⟩
        case round =>
          obtain ⟨k, cn, hk, rfl, rfl, rfl, rfl, hcn, HNO, HK, HOW, hg⟩ := hrel
          obtain ⟨w5, rfl⟩ : ∃ w5 : World, w5 = wr := ⟨_, rfl⟩
          by_cases hlt : k < n
          · obtain ⟨bj, oj, t, rr, d0, u, rfl, hbj, hj0, hj1, hj2, hj3, hxj⟩ := (HJ.out _ hg).at_ (k := k) (by rw [HN.out]; exact hlt)
            have hkn : (k : Int) < (n : Int) := by omega
            have hkk : (k : Int) ≤ 8 := by omega
            have hdb := HL.out.at_ k (by rw [HN.out]; exact hlt)
            rw [hxj.out] at hdb
            simp only [] at hdb
            obtain ⟨hdb0, hdb1, _, _, hdd0, hdd1, _, _⟩ := hdb
            have HXJ := hide hxj.out
            have hS1 := shr_test S k hS62
            have HGA : Hid (∀ o, w4.grownBy (w5.alloc o) (some b0)) := fun o => alloc_grown hg o
            have HNS : Hid (nextB L (fun i => bl.getD i 0) d S a r k = false → ∀ j, j < k + 1 → nextB L (fun i => bl.getD i 0) d S a r j = false) := fun h j hj => by
              by_cases e : j = k
              · subst e; exact h
              · exact HNO.out j (by omega)
            clear hxj
            cases hbt : S.testBit k with
            | true =>
              rw [hbt] at hS1
              have HN1 : Hid (nextB L (fun i => bl.getD i 0) d S a r k = false) := by
                show _ = _
                unfold nextB mayB; rw [hbt]; rfl
              clear hbt hg
              go_wp2
              go_roundw
              case rel => exact ⟨k + 1, cn, by omega, by go_num, rfl, rfl, rfl, by omega, hide (HNS.out HN1.out), hide (HK.out.alloc _), hide (HOW.out.alloc _), HGA.out _⟩
              case measure => simp [intOf] <;> omega
            | false =>
              rw [hbt] at hS1
              obtain ⟨bb, ob, z0, rfl, hbb, hcb, hxb⟩ := (HI.out _ hg).at_ (k := k) (by rw [up_length, HBL.out]; exact hlt)
              have hz0 : z0 = ((bl.getD k 0 : Nat) : Int) := by have := hxb.out; rw [up_getD] at this; exact this.symm
              have hb9 := HB8.out k hlt
              obtain ⟨m9, hm⟩ : ∃ m9, m9 = bl.getD k 0 := ⟨_, rfl⟩
              rw [← hm] at hz0 hb9
              subst hz0
              have hand : bits BinOp.andNot IntKind.i64 (m9 : Int) (S : Int) = ((sdiff m9 S : Nat) : Int) := bandNot_nat m9 S (by omega) hS62
              obtain ⟨z, hz⟩ : ∃ z, z = sdiff m9 S := ⟨_, rfl⟩
              rw [← hz] at hand
              have HM := hide hm
              have HZ := hide hz
              clear hxb hm hz
              by_cases hz0 : z = 0
              · subst hz0
                have hmay : mayB (fun i => bl.getD i 0) S k = true := by show (!S.testBit k && decide (sdiff (bl.getD k 0) S = 0)) = true; rw [hbt, ← HM.out, ← HZ.out]; rfl
                have HMAY := hide hmay
                by_cases hlate : r < a + t - d0
                · have HN1 : Hid (nextB L (fun i => bl.getD i 0) d S a r k = false) := by
                    show _ = _
                    unfold nextB
                    rw [HXJ.out, decide_eq_false (show ¬ a + t - d0 ≤ r by omega)]; simp
                  clear hbt hmay hg
                  go_wp2
                  go_roundw
                  case rel => exact ⟨k + 1, cn, by omega, by go_num, rfl, rfl, rfl, by omega, hide (HNS.out HN1.out), hide (HK.out.alloc _), hide (HOW.out.alloc _), HGA.out _⟩
                  case measure => simp [intOf] <;> omega
                · have hk64 : k < 62 := by omega
                  obtain ⟨T, hT⟩ : ∃ T, T = S ||| 2 ^ k := ⟨_, rfl⟩
                  have hor : bits BinOp.or IntKind.i64 (S : Int) (wrap64 (2 ^ k)) = (T : Int) := by rw [shl_one k (by omega), hT]; exact bor_nat S _ hS62 (Nat.pow_lt_pow_right (by decide) hk64)
                  have hTn : T < 2 ^ n := by rw [hT]; exact or_lt HSN.out hlt
                  have hTc : cardF n T + d = n := by rw [hT, card_or hbt, if_pos hlt]; have := HSC.out; omega
                  obtain ⟨w6, hw6⟩ : ∃ w6, w6 = w5.alloc (.cells #[.int .i64 t, .int .i64 rr, .int .i64 d0, .int .i64 u] 48) := ⟨_, rfl⟩
                  have hbx : w6.heap[w5.heap.size]? = some (.cells #[.int .i64 t, .int .i64 rr, .int .i64 d0, .int .i64 u] 48 (0, 0)) := by rw [hw6]; exact alloc_new _ _ _ rfl
                  have hg6 : w4.grownBy w6 (some b0) := by rw [hw6]; exact alloc_grown hg _
                  have hk6 : KnownM w6 b0 (knownW L (fun i => bl.getD i 0)) cn := by rw [hw6]; exact HK.out.alloc _
                  have hb06 : b0 ≠ w5.heap.size := by have := HK.out.lt; omega
                  have HOW6 : Hid (w6.ownsRow w4.heap.size 3 1 (.slice X q c') q ((up l).map (Value.int .i64))) := by show World.ownsRow _ _ _ _ _ _ _; rw [hw6]; exact HOW.out.alloc _
                  have HCALL := hide (HWO.out d T cn w6 hTn hTc (by omega) (HJ.out _ hg6) (HI.out _ hg6) hk6)
                  have HG6 := hide hg6
                  have HB06 := hide hb06
                  have HBX := hide hbx
                  have HW6 := hide hw6
                  have HTT := hide hT
                  have hs6 : w5.heap.size < w6.heap.size := lt_of_block hbx
                  clear hbt hmay hg hT hTn hTc hw6 hbx hg6 hk6 hb06 hb9
                  go_wp2_with fail
                  rw [← HW6.out]
                  refine (HCALL.out).mono ?_
                  rintro e w7 ⟨x2, f2, rfl, hx2, hg7, c2, hc2, HK7⟩
                  have q0 := hg7.cell (blk_cell HBX.out 0) (fun e => HB06.out (Option.some.inj e).symm)
                  have HQ0 := hide q0
                  have HG7 := hide (HG6.out.trans hg7)
                  have HOW7 : Hid (w7.ownsRow w4.heap.size 3 1 (.slice X q c') q ((up l).map (Value.int .i64))) := hide (own_keepS HOW6.out (fun g hg => hg7.block g (own_lt HOW6.out g hg).2 (fun e => by have := (own_lt HOW6.out g hg).1; injection e with e; omega)))
                  have hs7 : w6.heap.size ≤ w7.heap.size := hg7.size
                  have hx := hx2.out
                  have HXL := hide (fun g (hg : (Value.slice X q c').ownBlock = some g) => (own_lt HOW.out g hg).2)
                  clear hg7 HCALL hx2
                  rcases hx with ⟨h1, h2, h3⟩ | ⟨h1, h2⟩
                  · subst h2; subst h3
                    have HN1 : Hid (nextB L (fun i => bl.getD i 0) d S a r k = false) := by
                      show _ = _
                      unfold nextB
                      rw [← HTT.out, h1]; simp
                    clear h1
                    go_wp2
                    go_roundw
                    case rel => exact ⟨k + 1, c2, by omega, by go_num, rfl, rfl, rfl, by omega, hide (HNS.out HN1.out), HK7, HOW7, HG7.out⟩
                    case measure => simp [intOf] <;> omega
                  · subst h2
                    by_cases hxr : x2 ≤ r
                    · have HN1 : Hid (nextB L (fun i => bl.getD i 0) d S a r k = true) := hide (next_iff.2 ⟨HMAY.out, by rw [HXJ.out]; show a + t - d0 ≤ r; omega, x2, by rw [← HTT.out]; exact h1, hxr⟩)
                      have HGN := hide (HGS.out.next (by rw [HN.out]; exact hlt) HN1.out HNO.out)
                      have hdl : decide (x2 ≤ r) = true := decide_eq_true hxr
                      clear h1
                      go_wp2_with (at_builtin; refine wpList_app1 (w0 := w7) _ _ 41 3 (.int .i64 0) 8 rfl rfl Try.underlying41 info_int rfl w4.heap.size (.slice X q c') q _ (.int .i64 (k : Nat)) rfl rfl rfl ⟨_, rfl⟩ HOW7.out rfl (by omega) (by omega) (by have := HG7.out.size; omega) ?_; intro g2 cg w8 hown1 hd1 hd2 hg1 hgl2 hgrow; have HOW8 := hide hown1; have q0 := hgrow.cell HQ0.out (fun e => by have h9 := HXL.out _ e.symm; simp at h9); have HK8 := hide (HK7.out.kept hgrow (fun e => by have h9 := (own_lt HOW7.out _ e.symm).1; omega)); have HG8 : Hid (w4.grownBy w8 (some b0)) := ⟨(hgrow.os).trans HG7.out.os, (hgrow.tape).trans HG7.out.tape, (hgrow.output).trans HG7.out.output, Nat.le_trans HG7.out.size hgrow.size, fun j hj hne => (hgrow.block j (Nat.lt_of_lt_of_le hj HG7.out.size) (fun e => by have h9 := (own_lt HOW7.out _ e.symm).1; omega)).trans (HG7.out.block j hj hne)⟩; clear hown1 hg1 hgrow)
                      go_roundw
                      case rel =>
                        refine ⟨l ++ [k], q + 1, T, d, c2, cg, some ⟨g2, 0, none⟩, a + t, rfl, rfl, rfl, hd1, by omega, hide (by rw [List.length_append, HLL.out]; rfl), ?_, by omega, HK8, hide ?_, HG8.out⟩
                        · have h9 := HGN.out
                          rw [← HTT.out, HXJ.out] at h9
                          exact h9
                        · have e9 : (up (l ++ [k])).map (Value.int .i64) = (up l).map (Value.int .i64) ++ [Value.int .i64 (k : Int)] := by simp [up]
                          rw [e9]; exact HOW8.out
                      case measure => simp [intOf] <;> omega
                    · have HN1 : Hid (nextB L (fun i => bl.getD i 0) d S a r k = false) := by
                        show _ = _
                        unfold nextB
                        rw [← HTT.out, h1]; simp only []
                        rw [decide_eq_false hxr, Bool.and_false]
                      have hdl : decide (x2 ≤ r) = false := decide_eq_false hxr
                      clear h1
                      go_wp2
                      go_roundw
                      case rel => exact ⟨k + 1, c2, by omega, by go_num, rfl, rfl, rfl, by omega, hide (HNS.out HN1.out), HK7, HOW7, HG7.out⟩
                      case measure => simp [intOf] <;> omega
              · have hzb : ((z : Int) == 0) = false := by simp; omega
                have HN1 : Hid (nextB L (fun i => bl.getD i 0) d S a r k = false) := by
                  show _ = _
                  have hno : mayB (fun i => bl.getD i 0) S k = false := by
                    show (!S.testBit k && decide (sdiff (bl.getD k 0) S = 0)) = false
                    rw [← HM.out, ← HZ.out, hbt]; simp [hz0]
                  unfold nextB
                  rw [hno]; rfl
                clear hbt hg hb9
                go_wp2
                go_roundw
                case rel => exact ⟨k + 1, cn, by omega, by go_num, rfl, rfl, rfl, by omega, hide (HNS.out HN1.out), hide (HK.out.alloc _), hide (HOW.out.alloc _), HGA.out _⟩
                case measure => simp [intOf] <;> omega
          · exfalso
            obtain ⟨i, hi, hp⟩ := HGS.out.some_
            rw [HNO.out i (by rw [HN.out] at hi; omega)] at hp
            cases hp
      · obtain rfl : q = n := by omega
        obtain rfl : d = 0 := by omega
        have HEQ : Hid (l = gr L (fun i => bl.getD i 0) q 0 0 r) := by
          have h9 := HGS.out.eq_
          rw [HN.out] at h9
          rw [show gr L (fun i => bl.getD i 0) 0 S a r = [] from rfl, List.append_nil] at h9
          exact hide h9
        have HIX := hide (ints_of_own HOW.out)
        have HGO := hide hg
        clear hg hSn hSc
        go_wp2
        exact bodyPost_ret (v := .tuple #[.slice X q c', .int .i64 r, .int .i64 0]) (by simp [results, Try.results40, go_sem]) rfl (HPO.out _ _ ⟨.inr ⟨r, X, c', HF1.out, rfl, hqc, by rw [← HEQ.out]; exact HIX.out⟩, HBG.out _ HGO.out⟩)
end Go.Proofs.Ytiadineakhcclaa

/-
  slices.Equal of equal lists of pieces.
-/
namespace Go.Proofs.Ytiadineakhcclaa
open Go.RowKit Go.Deep
set_option linter.unusedVariables false
set_option linter.unusedSimpArgs false

set_option maxHeartbeats 1600000 in
theorem eqdp_same (A : Option Addr) (n c : Nat) (A' : Option Addr) (c' : Nat) (l : List P3) (w : World) (hn : l.length = n) (hlen : n ≤ 9223372036854775807) (hA : PcsA w w.heap.size A l) (hA' : PcsA w w.heap.size A' l) :
    Calls Try.prog 26 #[.slice A n c, .slice A' n c'] w fun e w' => e = .returned (.bool true) ∧ Below w.heap.size w w' := by
  have hg : ∀ (x y : Operand) (xs ys : Array Value) (w : World), (eqGuard .neq 44 x y (.agg xs) (.agg ys)).run Try.prog w = .ok () w := fun x y xs ys w => run_eqGuard_agg w .neq 44 x y xs ys (by kernel_rfl)
  have hne : ∀ (a b c : Int) (w : World), (binOp .neq 44 (.agg #[.int .i64 a, .int .i64 b, .int .i64 c]) (.agg #[.int .i64 a, .int .i64 b, .int .i64 c])).run Try.prog w = .ok (.bool false) w := fun a b c w => by
    have u3 := Try.underlying3
    have hS : Try.prog.underlying 44 = some (.struct (Try.prog.fieldsOf 44)) := by kernel_rfl
    have hp : Try.prog.stoodInHeld 44 = false := by kernel_rfl
    rw [run_neq_struct, show (10000 : Nat) = 9999 + 1 from rfl, run_equalIn_agg w 9999 44 _ _ hS hp]
    simp only [Program.fieldsOf, Try.underlying44]
    go_simp
  have HN := hide hn
  have HA := hide hA
  have HA' := hide hA'
  clear hn hA hA'
  go_enter Try.func26, Try.ntmps26
  go_wp2
  go_loopw [13] (fun i wr => ∃ k : Nat, k ≤ n ∧ i = .int .i64 k ∧ Below w.heap.size w wr) (fun i _ => n - (intOf i).toNat)
  case atStart => exact ⟨0, Nat.zero_le _, rfl, Below.refl _ _⟩
  case round =>
    obtain ⟨k, hk, rfl, hb⟩ := hrel
    by_cases hlt : k < n
    · obtain ⟨b1, o1, j, f, t, rfl, hb1, hc0, hc1, hc2, hx⟩ := (HA.out.next hb).at_ (k := k) (by rw [HN.out]; exact hlt)
      obtain ⟨b2, o2, j2, f2, t2, rfl, hb2, hd0, hd1, hd2, hx2⟩ := (HA'.out.next hb).at_ (k := k) (by rw [HN.out]; exact hlt)
      have e := hx.out.symm.trans hx2.out
      injection e with e1 e2 e3
      subst e1; subst e2; subst e3
      have hkn : (k : Int) < (n : Int) := by omega
      have HBD : Hid (∀ q, Below w.heap.size w (wr.drewN q)) := fun q => below_drewN hb q
      clear hx hx2 hb
      go_wp2
      go_quiet (fail)
      go_wp2
      go_roundw
      case rel => exact ⟨k + 1, by omega, by go_num, HBD.out _⟩
      case measure => simp [intOf] <;> omega
    · obtain rfl : n = k := by omega
      go_wp2
      go_ret
      exact ⟨rfl, hb⟩
set_option maxHeartbeats 1600000 in
theorem eqrp_same (A : Option Addr) (n c : Nat) (A' : Option Addr) (c' : Nat) (l : List P3) (w : World) (hn : l.length = n) (hlen : n ≤ 9223372036854775807) (hA : PcsA w w.heap.size A l) (hA' : PcsA w w.heap.size A' l) :
    Calls Try.prog 22 #[.slice A n c, .slice A' n c'] w fun e w' => e = .returned (.bool true) ∧ Below w.heap.size w w' := by
  have hg : ∀ (x y : Operand) (xs ys : Array Value) (w : World), (eqGuard .neq 36 x y (.agg xs) (.agg ys)).run Try.prog w = .ok () w := fun x y xs ys w => run_eqGuard_agg w .neq 36 x y xs ys (by kernel_rfl)
  have hne : ∀ (a b c : Int) (w : World), (binOp .neq 36 (.agg #[.int .i64 a, .int .i64 b, .int .i64 c]) (.agg #[.int .i64 a, .int .i64 b, .int .i64 c])).run Try.prog w = .ok (.bool false) w := fun a b c w => by
    have u3 := Try.underlying3
    have hS : Try.prog.underlying 36 = some (.struct (Try.prog.fieldsOf 36)) := by kernel_rfl
    have hp : Try.prog.stoodInHeld 36 = false := by kernel_rfl
    rw [run_neq_struct, show (10000 : Nat) = 9999 + 1 from rfl, run_equalIn_agg w 9999 36 _ _ hS hp]
    simp only [Program.fieldsOf, Try.underlying36]
    go_simp
  have HN := hide hn
  have HA := hide hA
  have HA' := hide hA'
  clear hn hA hA'
  go_enter Try.func22, Try.ntmps22
  go_wp2
  go_loopw [13] (fun i wr => ∃ k : Nat, k ≤ n ∧ i = .int .i64 k ∧ Below w.heap.size w wr) (fun i _ => n - (intOf i).toNat)
  case atStart => exact ⟨0, Nat.zero_le _, rfl, Below.refl _ _⟩
  case round =>
    obtain ⟨k, hk, rfl, hb⟩ := hrel
    by_cases hlt : k < n
    · obtain ⟨b1, o1, j, f, t, rfl, hb1, hc0, hc1, hc2, hx⟩ := (HA.out.next hb).at_ (k := k) (by rw [HN.out]; exact hlt)
      obtain ⟨b2, o2, j2, f2, t2, rfl, hb2, hd0, hd1, hd2, hx2⟩ := (HA'.out.next hb).at_ (k := k) (by rw [HN.out]; exact hlt)
      have e := hx.out.symm.trans hx2.out
      injection e with e1 e2 e3
      subst e1; subst e2; subst e3
      have hkn : (k : Int) < (n : Int) := by omega
      have HBD : Hid (∀ q, Below w.heap.size w (wr.drewN q)) := fun q => below_drewN hb q
      clear hx hx2 hb
      go_wp2
      go_quiet (fail)
      go_wp2
      go_roundw
      case rel => exact ⟨k + 1, by omega, by go_num, HBD.out _⟩
      case measure => simp [intOf] <;> omega
    · obtain rfl : n = k := by omega
      go_wp2
      go_ret
      exact ⟨rfl, hb⟩
end Go.Proofs.Ytiadineakhcclaa

/-
  awake.
-/
namespace Go.Proofs.Ytiadineakhcclaa
open Go.RowKit Go.Deep
set_option linter.unusedVariables false
set_option linter.unusedSimpArgs false

def L1 : List J4 := [⟨2, 1, 9, 0⟩]
theorem jobs_L1 : jobsB L1 = true := by kernel_rfl
theorem run_L1 : runP false L1 3 = ([0], [⟨0, 1, 3⟩]) := by kernel_rfl
theorem plan_L1 : planN false L1 = [⟨0, 1, 3⟩] := by
  have h := runP_end (sh := false) (jobsB_iff.1 jobs_L1) (k := 3) (by
    rw [run_L1]; intro i hi
    obtain rfl : i = 0 := by have : i < 1 := hi; omega
    exact Int.le_refl _)
  rw [← h, run_L1]
set_option maxHeartbeats 1600000 in
theorem awake_any (w : World) : Calls Try.prog 20 #[] w fun e w' => e = .returned (.bool true) ∧ Below w.heap.size w w' := by
  obtain ⟨w1, hw1⟩ : ∃ w1, w1 = w.alloc (.cells #[.int .i64 2, .int .i64 1, .int .i64 9, .int .i64 0] 48) := ⟨_, rfl⟩
  have hbx : w1.heap[w.heap.size]? = some (.cells #[.int .i64 2, .int .i64 1, .int .i64 9, .int .i64 0] 48 (0, 0)) := by rw [hw1]; exact alloc_new _ _ _ rfl
  have hJ : JobsA w1 w1.heap.size (some ⟨w.heap.size, 0, none⟩) L1 := fun i hi => by
    obtain rfl : i = 0 := by have : i < 1 := hi; omega
    exact ⟨w.heap.size, 0, rfl, lt_of_block hbx, blk_cell hbx 0, blk_cell hbx 1, blk_cell hbx 2, blk_cell hbx 3⟩
  have HB1 : Hid (Below w.heap.size w w1) := by subst hw1; exact (Below.refl _ _).alloc (Nat.le_refl _) _
  have HP := hide (plan_yes (some ⟨w.heap.size, 0, none⟩) 1 1 L1 w1 rfl (by omega) hJ jobs_L1)
  rw [plan_L1] at HP
  have HEQ : Hid (∀ (w2 : World) (X : Option Addr) (c : Nat), PcsA w2 w2.heap.size X [⟨0, 1, 3⟩] → Below w.heap.size w w2 → Calls Try.prog 26 #[.slice X 1 c, .slice (some ⟨w2.heap.size, 0, none⟩) 1 1] (w2.alloc (.cells #[.int .i64 0, .int .i64 1, .int .i64 3] 44)) fun e w' => e = .returned (.bool true) ∧ Below w.heap.size w w') := fun w2 X c hX hb => by
    have hb2 : Below w2.heap.size w2 (w2.alloc (.cells #[.int .i64 0, .int .i64 1, .int .i64 3] 44)) := (Below.refl _ _).alloc (Nat.le_refl _) _
    have hby : (w2.alloc (.cells #[.int .i64 0, .int .i64 1, .int .i64 3] 44)).heap[w2.heap.size]? = some (.cells #[.int .i64 0, .int .i64 1, .int .i64 3] 44 (0, 0)) := alloc_new _ _ _ rfl
    refine (eqdp_same X 1 c (some ⟨w2.heap.size, 0, none⟩) 1 [⟨0, 1, 3⟩] _ rfl (by omega) (hX.next hb2) (fun i hi => ?_)).mono fun e w' h => ⟨h.1, (hb.trans (hb2.mono hb.size)).trans (h.2.mono (hb.trans (hb2.mono hb.size)).size)⟩
    obtain rfl : i = 0 := by have : i < 1 := hi; omega
    exact ⟨w2.heap.size, 0, rfl, lt_of_block hby, blk_cell hby 0, blk_cell hby 1, blk_cell hby 2⟩
  have HW := hide hw1
  clear hw1 hbx hJ
  go_enter Try.func20, Try.ntmps20
  go_wp2_with (first
    | (go_at_call 24; rw [← HW.out]; refine (HP.out).mono ?_; rintro e w2 ⟨X, m, c', rfl, h1, h2, h3, h4⟩; obtain rfl : 1 = m := h1; have H3 := hide h3; have H4 := hide (HB1.out.trans (h4.mono HB1.out.size)); clear h3 h4)
    | (go_at_call 26; refine (HEQ.out _ _ _ H3.out H4.out).mono ?_; rintro e w3 ⟨rfl, h5⟩; have H5 := hide h5; clear h5))
  go_ret
  exact ⟨rfl, H5.out⟩
end Go.Proofs.Ytiadineakhcclaa

/-
  The reference's Valid.
-/
namespace Go.Proofs.Ytiadineakhcclaa
open Go.RowKit Go.Deep
set_option linter.unusedVariables false
set_option linter.unusedSimpArgs false

set_option maxRecDepth 100000 in
set_option maxHeartbeats 3200000 in
theorem drefvalid_any (A : Option Addr) (n c : Nat) (L : List J4) (w : World) (hn : L.length = n) (hlen : n ≤ 9223372036854775807) (hA : JobsA w w.heap.size A L) :
    Calls Try.prog 19 #[.slice A n c] w fun e w' => e = .returned (.bool (jobsB L)) ∧ Below w.heap.size w w' := by
  have HN := hide hn
  have HA := hide hA
  clear hn hA
  go_enter Try.func19, Try.ntmps19
  go_wp2
  go_loopw [7] (fun i wr => ∃ k : Nat, k ≤ n ∧ i = .int .i64 k ∧ Hid (∀ j, j < k → jobB (L.getD j j0) = true) ∧ Below w.heap.size w wr) (fun i _ => n - (intOf i).toNat)
  case atStart => exact ⟨0, Nat.zero_le _, rfl, fun j hj => absurd hj (by omega), Below.refl _ _⟩
  case round =>
    obtain ⟨k, hk, rfl, HNO, hb⟩ := hrel
    by_cases hlt : k < n
    · obtain ⟨bj, oj, t, r, d, u, rfl, hbj, hc0, hc1, hc2, hc3, hx⟩ := (HA.out.below hb).at_ (k := k) (by rw [HN.out]; exact hlt)
      have HX := hide hx.out
      have hkn : (k : Int) < (n : Int) := by omega
      have HBA : Hid (∀ o, Below w.heap.size w (wr.alloc o)) := fun o => hb.alloc hb.size _
      clear hb hx
      by_cases c0 : t < 1
      · have d0 : decide (t < 1) = true := decide_eq_true c0
        have HJ : Hid (jobB ⟨t, r, d, u⟩ = false) := decide_eq_false (fun h => by simp only [] at h; omega)
        have HF : Hid (jobsB L = false) := by rw [jobsB, show L.all jobB = false from Classical.byContradiction fun h => by rw [Bool.not_eq_false, List.all_eq_true] at h; have := h _ (getD_mem (l := L) (j := k) (d := j0) (by rw [HN.out]; exact hlt)); rw [HX.out, HJ.out] at this; exact absurd this (by simp), Bool.and_false]; exact hide rfl
        go_wp2
        go_ret
        exact ⟨by rw [HF.out]; rfl, HBA.out _⟩
      · have n0 : 1 ≤ t := by omega
        have d0 : decide (t < 1) = false := decide_eq_false c0
        by_cases c1 : 20 < t
        · have d1 : decide (20 < t) = true := decide_eq_true c1
          have HJ : Hid (jobB ⟨t, r, d, u⟩ = false) := decide_eq_false (fun h => by simp only [] at h; omega)
          have HF : Hid (jobsB L = false) := by rw [jobsB, show L.all jobB = false from Classical.byContradiction fun h => by rw [Bool.not_eq_false, List.all_eq_true] at h; have := h _ (getD_mem (l := L) (j := k) (d := j0) (by rw [HN.out]; exact hlt)); rw [HX.out, HJ.out] at this; exact absurd this (by simp), Bool.and_false]; exact hide rfl
          go_wp2
          go_ret
          exact ⟨by rw [HF.out]; rfl, HBA.out _⟩
        · have n1 : t ≤ 20 := by omega
          have d1 : decide (20 < t) = false := decide_eq_false c1
          by_cases c2 : r < 0
          · have d2 : decide (r < 0) = true := decide_eq_true c2
            have HJ : Hid (jobB ⟨t, r, d, u⟩ = false) := decide_eq_false (fun h => by simp only [] at h; omega)
            have HF : Hid (jobsB L = false) := by rw [jobsB, show L.all jobB = false from Classical.byContradiction fun h => by rw [Bool.not_eq_false, List.all_eq_true] at h; have := h _ (getD_mem (l := L) (j := k) (d := j0) (by rw [HN.out]; exact hlt)); rw [HX.out, HJ.out] at this; exact absurd this (by simp), Bool.and_false]; exact hide rfl
            go_wp2
            go_ret
            exact ⟨by rw [HF.out]; rfl, HBA.out _⟩
          · have n2 : 0 ≤ r := by omega
            have d2 : decide (r < 0) = false := decide_eq_false c2
            by_cases c3 : 100 < r
            · have d3 : decide (100 < r) = true := decide_eq_true c3
              have HJ : Hid (jobB ⟨t, r, d, u⟩ = false) := decide_eq_false (fun h => by simp only [] at h; omega)
              have HF : Hid (jobsB L = false) := by rw [jobsB, show L.all jobB = false from Classical.byContradiction fun h => by rw [Bool.not_eq_false, List.all_eq_true] at h; have := h _ (getD_mem (l := L) (j := k) (d := j0) (by rw [HN.out]; exact hlt)); rw [HX.out, HJ.out] at this; exact absurd this (by simp), Bool.and_false]; exact hide rfl
              go_wp2
              go_ret
              exact ⟨by rw [HF.out]; rfl, HBA.out _⟩
            · have n3 : r ≤ 100 := by omega
              have d3 : decide (100 < r) = false := decide_eq_false c3
              by_cases c4 : d < 0
              · have d4 : decide (d < 0) = true := decide_eq_true c4
                have HJ : Hid (jobB ⟨t, r, d, u⟩ = false) := decide_eq_false (fun h => by simp only [] at h; omega)
                have HF : Hid (jobsB L = false) := by rw [jobsB, show L.all jobB = false from Classical.byContradiction fun h => by rw [Bool.not_eq_false, List.all_eq_true] at h; have := h _ (getD_mem (l := L) (j := k) (d := j0) (by rw [HN.out]; exact hlt)); rw [HX.out, HJ.out] at this; exact absurd this (by simp), Bool.and_false]; exact hide rfl
                go_wp2
                go_ret
                exact ⟨by rw [HF.out]; rfl, HBA.out _⟩
              · have n4 : 0 ≤ d := by omega
                have d4 : decide (d < 0) = false := decide_eq_false c4
                by_cases c5 : 200 < d
                · have d5 : decide (200 < d) = true := decide_eq_true c5
                  have HJ : Hid (jobB ⟨t, r, d, u⟩ = false) := decide_eq_false (fun h => by simp only [] at h; omega)
                  have HF : Hid (jobsB L = false) := by rw [jobsB, show L.all jobB = false from Classical.byContradiction fun h => by rw [Bool.not_eq_false, List.all_eq_true] at h; have := h _ (getD_mem (l := L) (j := k) (d := j0) (by rw [HN.out]; exact hlt)); rw [HX.out, HJ.out] at this; exact absurd this (by simp), Bool.and_false]; exact hide rfl
                  go_wp2
                  go_ret
                  exact ⟨by rw [HF.out]; rfl, HBA.out _⟩
                · have n5 : d ≤ 200 := by omega
                  have d5 : decide (200 < d) = false := decide_eq_false c5
                  by_cases c6 : u < 0
                  · have d6 : decide (u < 0) = true := decide_eq_true c6
                    have HJ : Hid (jobB ⟨t, r, d, u⟩ = false) := decide_eq_false (fun h => by simp only [] at h; omega)
                    have HF : Hid (jobsB L = false) := by rw [jobsB, show L.all jobB = false from Classical.byContradiction fun h => by rw [Bool.not_eq_false, List.all_eq_true] at h; have := h _ (getD_mem (l := L) (j := k) (d := j0) (by rw [HN.out]; exact hlt)); rw [HX.out, HJ.out] at this; exact absurd this (by simp), Bool.and_false]; exact hide rfl
                    go_wp2
                    go_ret
                    exact ⟨by rw [HF.out]; rfl, HBA.out _⟩
                  · have n6 : 0 ≤ u := by omega
                    have d6 : decide (u < 0) = false := decide_eq_false c6
                    by_cases c7 : 20 < u
                    · have d7 : decide (20 < u) = true := decide_eq_true c7
                      have HJ : Hid (jobB ⟨t, r, d, u⟩ = false) := decide_eq_false (fun h => by simp only [] at h; omega)
                      have HF : Hid (jobsB L = false) := by rw [jobsB, show L.all jobB = false from Classical.byContradiction fun h => by rw [Bool.not_eq_false, List.all_eq_true] at h; have := h _ (getD_mem (l := L) (j := k) (d := j0) (by rw [HN.out]; exact hlt)); rw [HX.out, HJ.out] at this; exact absurd this (by simp), Bool.and_false]; exact hide rfl
                      go_wp2
                      go_ret
                      exact ⟨by rw [HF.out]; rfl, HBA.out _⟩
                    · have n7 : u ≤ 20 := by omega
                      have d7 : decide (20 < u) = false := decide_eq_false c7
                      have HJ : Hid (jobB ⟨t, r, d, u⟩ = true) := decide_eq_true (by simp only []; omega)
                      clear n0 n1 n2 n3 n4 n5 n6 n7
                      go_wp2
                      go_roundw
                      case rel =>
                        refine ⟨k + 1, by omega, by go_num, fun j hj => ?_, HBA.out _⟩
                        by_cases e : j = k
                        · subst e; rw [HX.out]; exact HJ.out
                        · exact HNO.out j (by omega)
                      case measure => simp [intOf] <;> omega
    · obtain rfl : n = k := by omega
      have HAL : Hid (L.all jobB = true) := by
        rw [List.all_eq_true]
        intro x hx
        obtain ⟨i, hi, rfl⟩ := List.getElem_of_mem hx
        rw [getD_cons_of (d := j0) hi]
        exact HNO.out i (by rw [← HN.out]; exact hi)
      have HE : Hid (jobsB L = (decide (1 ≤ n) && decide (n ≤ 8))) := by
        rw [jobsB, HAL.out, HN.out, Bool.and_true, Bool.decide_and]; exact hide rfl
      by_cases h1 : 1 ≤ n
      · have d1 : decide ((1 : Int) ≤ (n : Int)) = true := decide_eq_true (by omega)
        by_cases h2 : n ≤ 8
        · have d2 : decide ((n : Int) ≤ 8) = true := decide_eq_true (by omega)
          have HE2 : Hid (jobsB L = true) := by rw [HE.out, decide_eq_true h1, decide_eq_true h2]; exact hide rfl
          go_wp2
          go_ret
          exact ⟨by rw [HE2.out]; rfl, hb⟩
        · have d2 : decide ((n : Int) ≤ 8) = false := decide_eq_false (by omega)
          have HE2 : Hid (jobsB L = false) := by rw [HE.out, decide_eq_false h2, Bool.and_false]; exact hide rfl
          go_wp2
          go_ret
          exact ⟨by rw [HE2.out]; rfl, hb⟩
      · have d1 : decide ((1 : Int) ≤ (n : Int)) = false := decide_eq_false (by omega)
        have HE2 : Hid (jobsB L = false) := by rw [HE.out, decide_eq_false h1, Bool.false_and]; exact hide rfl
        go_wp2
        go_ret
        exact ⟨by rw [HE2.out]; rfl, hb⟩
end Go.Proofs.Ytiadineakhcclaa
