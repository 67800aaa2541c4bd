/-
  DatesSlower, part 2 of 4: the texts RefPlanD, RefPlanS, DRefs, DWhole, DEdf, DOverP, DInv, DSrpt, DBest, AppWp, DCmp, SortP, DSort, DByDue, DFitP, DFits, DOnes, DWeigh, DMost, DMostA, DFitQ, DRefFits, DRefMost, DOnesP, DOrd, joined.
-/
import Derived.Test.YtiadineakhcclaaMrgDatesSlower1
import Derived.Test.YtiadineakhcclaaProg
import Derived.Deep.Cut
import Derived.RegionTactic
import Derived.ChangeAlike
import Derived.BigQuiet

/-
  The reference's plan, by rule 0.
-/
namespace Go.Proofs.Ytiadineakhcclaa
open Go.RowKit
set_option linter.unusedVariables false
set_option linter.unusedSimpArgs false

set_option maxRecDepth 100000 in
set_option maxHeartbeats 3200000 in
theorem refplanD_any (A : Option Addr) (n c : Nat) (L : List J4) (w : World) (hn : L.length = n) (hL : JobsOk L) (hA : JobsA w w.heap.size A L) :
    Calls Try.prog 57 #[.slice A n c, .int .i64 0] w fun e w' => ∃ X m c', e = .returned (.slice X m c') ∧ (planN false L).length = m ∧ m ≤ c' ∧ PcsA w' w'.heap.size X (planN false L) ∧ Below w.heap.size w w' := by
  have info_rpiece : (Try.prog.info? 36).map (fun i => (i.zero, i.size, i.bytes)) = some (some (.agg #[.int .i64 0, .int .i64 0, .int .i64 0]), 3, 24) := by kernel_rfl
  have h8 : n ≤ 8 := by rw [← hn]; exact hL.le
  have h1 : 1 ≤ n := by rw [← hn]; exact hL.pos
  have HN := hide hn
  have HL := hide hL
  have HA := hide hA
  have HTB := hide (fun i (hi : i < n) => (hL.at_ i (by rw [hn]; exact hi)))
  have HTL0 : Hid ((timesOf L).length = n) := by rw [timesOf, List.length_map]; exact hn
  clear hn hL hA
  go_enter Try.func57, Try.ntmps57
  go_wp2
  go_loopw [6, 7, 17] (fun v6 v7 v wr => ∃ (k : Nat) (X : Option Addr) (c' : Nat) (z : Int), k ≤ n ∧ v = .int .i64 k ∧ v6 = .slice X k c' ∧ k ≤ c' ∧ v7 = .int .i64 z ∧ 0 ≤ z ∧ z ≤ 20 * k ∧ Hid (z = sumT (timesOf L) k) ∧ Hid (wr.ownsRow w.heap.size 3 1 (.slice X k c') k (((timesOf L).take k).map (Value.int .i64))) ∧ Below w.heap.size w wr) (fun _ _ v _ => n - (intOf v).toNat)
  case atStart => exact ⟨0, none, 0, 0, Nat.zero_le _, rfl, rfl, Nat.le_refl _, rfl, by omega, by omega, hide rfl, hide (World.ownsRow_nil _ _ _ _), Below.refl _ _⟩
  case round =>
    obtain ⟨k, X, cl, z, hk, rfl, rfl, hkc, rfl, hz0, hz1, HZ, HO, hb⟩ := hrel
    have HB := hide hb
    by_cases hlt : k < n
    · obtain ⟨bj, oj, t, r, d, u, rfl, hbj, hc0, hc1, hc2, hc3, hx⟩ := (HA.out.below hb).at_ (k := k) (by rw [HN.out]; exact hlt)
      have hkn : (k : Int) < (n : Int) := by omega
      have htb := HTB.out k hlt
      rw [hx.out] at htb
      simp only [] at htb
      obtain ⟨ht0, ht1, _⟩ := htb
      have HT : Hid ((timesOf L).getD k 0 = t) := by rw [timesOf_getD, hx.out]; exact hide rfl
      have HTK : Hid ((timesOf L).take (k + 1) = (timesOf L).take k ++ [t]) := by
        rw [take_snoc_int _ _ (by rw [HTL0.out]; exact hlt), HT.out]; exact hide rfl
      have HBA : Hid (∀ o, Below w.heap.size w (wr.alloc o)) := fun o => HB.out.alloc HB.out.size _
      have HJC : Hid (∀ w3 : World, (wr.alloc (.cells #[.int .i64 t, .int .i64 r, .int .i64 d, .int .i64 u] 43)).grownBy w3 (Value.slice X k cl).ownBlock → w3.cell? ⟨wr.heap.size, 0, none⟩ = some (.int .i64 t)) := fun w3 hg =>
        hg.cell (a := ⟨wr.heap.size, 0, none⟩) (by rw [World.cell?_alloc_at _ _ _ _ rfl]; rfl) (fun e => by have := (own_ltS HO.out _ e.symm).2; exact absurd this (Nat.lt_irrefl _))
      clear hx hb
      go_wp2_with (at_builtin; refine wpList_app1 (w0 := wr.alloc (.cells #[.int .i64 t, .int .i64 r, .int .i64 d, .int .i64 u] 43)) _ _ 41 3 (.int .i64 0) 8 rfl rfl Try.underlying41 info_int rfl w.heap.size (.slice X k cl) k _ (.int .i64 t) rfl (by simp [Act.eval]) rfl ⟨_, rfl⟩ (HO.out.alloc _) rfl (by omega) (by omega) (HBA.out _).size ?_; intro g2 cg w3 hown1 hd1 hd2 hg1 hgl2 hgrow; have HOW1 := hide hown1; have HG := hide hgrow; have hjc := HJC.out _ hgrow; clear hown1 hgrow)
      go_roundw
      case rel =>
        refine ⟨k + 1, some ⟨g2, 0, none⟩, cg, _, by omega, by go_num, rfl, hd1, rfl, by omega, by omega, hide ?_, ?_, (HBA.out _).grown HG.out (HBA.out _).size (fun q hq => (own_ltS HO.out q hq).1)⟩
        · rw [sumT, HT.out, ← HZ.out]
        · rw [HTK.out]
          exact hide (by rw [List.map_append]; exact HOW1.out)
      case measure => simp [intOf] <;> omega
    · obtain rfl : n = k := by omega
      obtain ⟨wq, rfl⟩ : ∃ wq : World, wq = wr := ⟨_, rfl⟩
      obtain ⟨gl, cc, hX, hgl0, hcc, hcm, hglq⟩ := own_formS HO.out (by omega)
      injection hX with hX1 _ hX2
      subst hX1; subst hX2
      have HTK : Hid ((timesOf L).take n = (runP false L 0).1) := List.take_of_length_le (by rw [HTL0.out]; exact Nat.le_refl _)
      rw [HTK.out] at HO
      have HZ0 : Hid (z = sumT (runP false L 0).1 n) := HZ.out
      clear hb HZ HTK
      go_wp2
      go_loopw [5, 7, 10] (fun v5 v7 v10 w2 => ∃ (k : Nat) (X : Option Addr) (m c' : Nat) (y : Int), k ≤ 300 ∧ v10 = .int .i64 k ∧ v5 = .slice X m c' ∧ m ≤ c' ∧ v7 = .int .i64 y ∧ Hid (y = sumT (runP false L k).1 n) ∧ Hid ((runP false L k).2.length = m) ∧ Hid (w2.ownsRow w.heap.size 3 1 (.slice (some ⟨gl, 0, none⟩) n cl) n ((runP false L k).1.map (Value.int .i64))) ∧
          Hid (w2.ownsRow wq.heap.size 36 3 (.slice X m c') m (pcells (runP false L k).2)) ∧ Below w.heap.size w w2 ∧ Hid (wq.heap.size ≤ w2.heap.size)) (fun _ _ v10 _ => 300 - (intOf v10).toNat)
      case atStart => exact ⟨0, none, 0, 0, z, by omega, rfl, rfl, Nat.le_refl _, rfl, HZ0, hide rfl, HO, hide (World.ownsRow_nil _ _ _ _), HB.out, hide (Nat.le_refl _)⟩
      case round =>
        obtain ⟨k, X, m, c', y, hk, rfl, rfl, hmc, rfl, HSY, HM, HT, HO2, hb2, HWQ⟩ := hrel
        obtain ⟨w2, rfl⟩ : ∃ w2 : World, w2 = wr := ⟨_, rfl⟩
        have HB2 := hide hb2
        have HOK := hide (runP_ok false HL.out k)
        have HZE := hide (fun h => runP_end (sh := false) (k := k) HL.out h)
        have HZ3 := hide (fun h => runP_300 (sh := false) (k := k) HL.out h)
        obtain ⟨s, hs⟩ : ∃ s, runP false L k = s := ⟨_, rfl⟩
        have HSN : Hid (runP false L (k + 1) = stepP false L k s) := by rw [← hs]; rfl
        rw [hs] at HM HT HO2 HOK HZE HZ3 HSY
        clear hs
        obtain ⟨t, out⟩ := s
        have HTL : Hid (t.length = n) := by rw [← HN.out]; exact HOK.out.len
        have HTB2 : Hid (∀ i, i < n → 0 ≤ t.getD i 0 ∧ t.getD i 0 ≤ 20) := fun i hi => by
          have h1 := HOK.out.bd i (by rw [HN.out]; exact hi)
          have h2 := HTB.out i hi
          simp only [] at h1
          omega
        have HIT : Hid (IntsA w2 w2.heap.size (some ⟨gl, 0, none⟩) t) := ints_of_own HT.out
        have hyb : 0 ≤ y ∧ y ≤ 160 := by
          have e := HSY.out
          simp only [] at e
          have h1 := sumT_nonneg (t := t) (n := n) (fun i hi => (HTB2.out i hi).1) n (Nat.le_refl _)
          have h2 := sumT_le (t := t) (n := n) (m := 20) (fun i hi => (HTB2.out i hi).2) n (Nat.le_refl _)
          omega
        obtain ⟨hy0, hy1⟩ := hyb
        have HSZ := hide (sumT_z HTL.out (fun i hi => (HTB2.out i hi).1))
        clear hb2
        by_cases hz : AllZ t
        · have hd : decide (0 < y) = false := decide_eq_false (fun h => by have e := HSY.out; simp only [] at e; have := HSZ.out.2 hz; omega)
          have HE : Hid (out = planN false L) := HZE.out hz
          have HPO := hide (pcs_of_own HO2.out)
          clear hz
          go_wp2
          go_ret
          exact ⟨X, m, c', rfl, by rw [← HE.out]; exact HM.out, hmc, by rw [← HE.out]; exact HPO.out, HB2.out⟩
        · have hyp : 0 < y := Classical.byContradiction fun h => hz (HSZ.out.1 (by have e := HSY.out; simp only [] at e; omega))
          have hd : decide (0 < y) = true := decide_eq_true hyp
          have hk3 : k < 300 := Nat.lt_of_not_le fun h => hz (HZ3.out h)
          clear hz
          go_wp2
          go_loopw [11, 37] (fun v10 v37 w3 => ∃ (i : Nat) (z : Int), i ≤ n ∧ v37 = .int .i64 i ∧ v10 = .int .i64 z ∧ -1 ≤ z ∧ z < i ∧ Hid (z = pkTo false L t k i) ∧ Below w2.heap.size w2 w3) (fun _ v37 _ => n - (intOf v37).toNat)
          case atStart => exact ⟨0, -1, Nat.zero_le _, rfl, rfl, by omega, by omega, hide rfl, Below.refl _ _⟩
          case round =>
            obtain ⟨i, z, hi, rfl, rfl, hz0, hz1, HZ, hb3⟩ := hrel
            obtain ⟨w3, rfl⟩ : ∃ w3 : World, w3 = wr := ⟨_, rfl⟩
            have HB3 := hide hb3
            have HW3 := hide (HB2.out.trans (hb3.mono HB2.out.size))
            by_cases hlt : i < n
            · obtain ⟨bj, oj, t', r, d, u, rfl, hbj, hc0, hc1, hc2, hc3, hx⟩ := ((HA.out.below HW3.out).more (Nat.le_trans HB2.out.size HB3.out.size)).at_ (k := i) (by rw [HN.out]; exact hlt)
              have hin : (i : Int) < (n : Int) := by omega
              obtain ⟨bt, ot, ti, e1, hbt, hci, hti⟩ := (HIT.out.next hb3).at_ (k := i) (by rw [HTL.out]; exact hlt)
              injection e1 with e1; injection e1 with e2 e3
              subst e2; subst e3
              rw [Nat.zero_add] at hci
              have htib := HTB2.out i hlt
              rw [hti.out] at htib
              obtain ⟨htib0, htib1⟩ := htib
              have HX := hide hx.out
              have HTI := hide hti.out
              clear hx hti hb3
              have HBW : Hid (∀ o, Below w2.heap.size w2 (w3.alloc o)) := fun o => HB3.out.alloc HB3.out.size _
              have HBWD : Hid (∀ o q, Below w2.heap.size w2 ((w3.alloc o).drewN q)) := fun o q => below_drewN (HBW.out o) q
              by_cases hr : r ≤ (k : Int)
              · by_cases ht0 : 0 < ti
                · have d1 : decide ((k : Int) < r) = false := decide_eq_false (by omega)
                  have d2 : (ti == 0) = false := by simp; omega
                  by_cases hz : z < 0
                  · have d3 : decide (z < 0) = true := decide_eq_true hz
                    have HNX : Hid ((i : Int) = pkTo false L t k (i + 1)) := by rw [pkTo, if_pos ⟨by rw [HX.out]; exact hr, by rw [HTI.out]; exact ht0, .inl (by rw [← HZ.out]; exact hz)⟩]; exact hide rfl
                    go_wp2
                    go_quiet (fail)
                    go_wp2
                    go_roundw
                    case rel => exact ⟨i + 1, (i : Int), by omega, by go_num, rfl, by omega, by omega, HNX, HBWD.out _ _⟩
                    case measure => simp [intOf] <;> omega
                  · have d3 : decide (z < 0) = false := decide_eq_false hz
                    obtain ⟨g, rfl⟩ : ∃ g : Nat, z = g := ⟨z.toNat, by omega⟩
                    have hgi : (g : Int) < (n : Int) := by omega
                    obtain ⟨bj2, oj2, t2, r2, dg, u2, e1, hbj2, hg0, hg1, hg2, hg3, hxg⟩ := ((HA.out.below HW3.out).more (Nat.le_trans HB2.out.size HB3.out.size)).at_ (k := g) (by rw [HN.out]; omega)
                    injection e1 with e1; injection e1 with e2 e3
                    subst e2; subst e3
                    obtain ⟨bt, ot, tg, e1, hbt2, hcg, htg⟩ := (HIT.out.next HB3.out).at_ (k := g) (by rw [HTL.out]; omega)
                    injection e1 with e1; injection e1 with e2 e3
                    subst e2; subst e3
                    rw [Nat.zero_add] at hcg
                    have HKEY : Hid (keyP false L t i < keyP false L t g ↔ d < dg) := by
                      unfold keyP; rw [if_neg (by simp), if_neg (by simp), HX.out, hxg.out]; exact Iff.rfl
                    clear hxg htg
                    by_cases hq : d < dg
                    · have dq : decide (d < dg) = true := decide_eq_true hq
                      have HNX : Hid ((i : Int) = pkTo false L t k (i + 1)) := by
                        rw [pkTo, ← HZ.out, if_pos ⟨by rw [HX.out]; exact hr, by rw [HTI.out]; exact ht0, .inr (HKEY.out.2 hq)⟩]; exact hide rfl
                      go_wp2
                      go_quiet (fail)
                      go_wp2
                      go_roundw
                      case rel => exact ⟨i + 1, (i : Int), by omega, by go_num, rfl, by omega, by omega, HNX, HBWD.out _ _⟩
                      case measure => simp [intOf] <;> omega
                    · have dq : decide (d < dg) = false := decide_eq_false hq
                      have HNX : Hid ((g : Int) = pkTo false L t k (i + 1)) := by
                        rw [pkTo, ← HZ.out, if_neg (fun h => by rcases h.2.2 with h | h; exact hz h; exact hq (HKEY.out.1 h))]; exact hide rfl
                      go_wp2
                      go_quiet (fail)
                      go_wp2
                      go_roundw
                      case rel => exact ⟨i + 1, (g : Int), by omega, by go_num, rfl, by omega, by omega, HNX, HBWD.out _ _⟩
                      case measure => simp [intOf] <;> omega
                · have d1 : decide ((k : Int) < r) = false := decide_eq_false (by omega)
                  have HNX : Hid (z = pkTo false L t k (i + 1)) := by rw [pkTo, if_neg (fun h => ht0 (by rw [← HTI.out]; exact h.2.1))]; exact HZ.out
                  obtain rfl : ti = 0 := by omega
                  clear ht0
                  go_wp2
                  go_roundw
                  case rel => exact ⟨i + 1, z, by omega, by go_num, rfl, by omega, by omega, HNX, HBW.out _⟩
                  case measure => simp [intOf] <;> omega
              · have d1 : decide ((k : Int) < r) = true := decide_eq_true (by omega)
                have HNX : Hid (z = pkTo false L t k (i + 1)) := by rw [pkTo, if_neg (fun h => hr (by have := h.1; rw [HX.out] at this; exact this))]; exact HZ.out
                go_wp2
                go_roundw
                case rel => exact ⟨i + 1, z, by omega, by go_num, rfl, by omega, by omega, HNX, HBW.out _⟩
                case measure => simp [intOf] <;> omega
            · obtain rfl : n = i := by omega
              have HPK : Hid (z = pk false L t k) := by rw [pk, HN.out]; exact HZ.out
              have HR3 := hide (own_keepS HT.out (fun g hg => HB3.out.block g (own_ltS HT.out g hg).2))
              have HO3 := hide (own_keepS HO2.out (fun g hg => HB3.out.block g (own_ltS HO2.out g hg).2))
              by_cases hz : z < 0
              · have d3 : decide (z < 0) = true := decide_eq_true hz
                have HST : Hid (runP false L (k + 1) = (t, out)) := by rw [HSN.out, stepP]; simp only []; rw [← HPK.out, if_pos hz]; exact hide rfl
                clear hb3
                go_wp2
                go_roundw
                case rel => exact ⟨k + 1, X, m, c', y, by omega, by go_num, rfl, hmc, rfl, by rw [HST.out]; exact HSY, by rw [HST.out]; exact HM, by rw [HST.out]; exact HR3, by rw [HST.out]; exact HO3, HW3.out, hide (Nat.le_trans HWQ.out HB3.out.size)⟩
                case measure => simp [intOf] <;> omega
              · have d3 : decide (z < 0) = false := decide_eq_false hz
                obtain ⟨g, rfl⟩ : ∃ g : Nat, z = g := ⟨z.toNat, by omega⟩
                have hgn : g < n := by omega
                have hgi : (g : Int) < (n : Int) := by omega
                obtain ⟨tg, htg⟩ : ∃ tg, t.getD g 0 = tg := ⟨_, rfl⟩
                have HST : Hid (runP false L (k + 1) = (t.set g (tg - 1), addP out g k)) := by rw [HSN.out, stepP]; simp only []; rw [← HPK.out, if_neg hz, Int.toNat_natCast, htg]; exact hide rfl
                have HSU : Hid (y - 1 = sumT (t.set g (tg - 1)) n) := by rw [sumT_set (by rw [HTL.out]; exact hgn), if_pos hgn, ← HSY.out, htg]; exact hide (by omega)
                have hcg : w3.cell? ⟨gl, g, none⟩ = some (.int .i64 tg) := own_cell HR3.out (by rw [List.getElem?_map, List.getElem?_eq_getElem (by rw [HTL.out]; exact hgn), getD_cons_of (d := 0) (by rw [HTL.out]; exact hgn), htg]; rfl)
                have hfg : w3.frozen? ⟨gl, g, none⟩ = false := own_free HR3.out g
                have hs3 : gl < w3.heap.size := (own_ltS HR3.out gl rfl).2
                have HQS : Hid (w.heap.size ≤ wq.heap.size) := hide HB.out.size
                have HQ3 : Hid (wq.heap.size ≤ w3.heap.size) := hide (Nat.le_trans HWQ.out HB3.out.size)
                have HR4 : Hid ((w3.setCell ⟨gl, g, none⟩ (.int .i64 (tg - 1))).ownsRow w.heap.size 3 1 (.slice (some ⟨gl, 0, none⟩) n cl) n ((t.set g (tg - 1)).map (Value.int .i64))) := by
                  rw [List.map_set]; exact hide (own_set HR3.out (by omega) _)
                have HO4 := hide (own_farS (b' := gl) (i := g) HO3.out (fun x hx h => by have := (own_ltS HO3.out x hx).1; omega) (.int .i64 (tg - 1)))
                have htb := HTB2.out g hgn
                rw [htg] at htb
                obtain ⟨htb0, htb1⟩ := htb
                have HTG := hide htg
                have HB4 : Hid (Below w.heap.size w (w3.setCell ⟨gl, g, none⟩ (.int .i64 (tg - 1)))) := HW3.out.setCell (show w.heap.size ≤ gl from hgl0) _
                have hmk : m ≤ 300 := by have := HOK.out.num; have := HM.out; simp only [] at *; omega
                have HSZ4 : Hid (wq.heap.size ≤ (w3.setCell ⟨gl, g, none⟩ (.int .i64 (tg - 1))).heap.size) := by simp; exact HQ3
                have hone : ∀ u ∈ [Value.int .i64 (g : Nat), .int .i64 (k : Nat), .int .i64 ((k : Int) + 1)], u.oneCell' = true := by intro u hu; simp at hu; rcases hu with rfl | rfl | rfl <;> rfl
                clear htg hb3
                by_cases hm0 : m = 0
                · subst hm0
                  have HAD : Hid (addP out g k = out ++ [⟨g, k, k + 1⟩]) := by rw [addP, if_neg (fun h => by have := HM.out; omega)]; exact hide rfl
                  go_wp2_with (at_builtin; refine wpList_appS (w0 := w3.setCell ⟨gl, g, none⟩ (.int .i64 (tg - 1))) _ _ 31 36 (.agg #[.int .i64 0, .int .i64 0, .int .i64 0]) 3 24 rfl rfl Try.underlying31 info_rpiece rfl (by decide) wq.heap.size (.slice X 0 c') 0 (pcells out) [.int .i64 (g : Nat), .int .i64 (k : Nat), .int .i64 ((k : Int) + 1)] rfl rfl (by simp [Act.eval]) rfl ⟨_, rfl⟩ HO4.out hone (by omega) (by omega) HSZ4.out ?_; intro ga cg w7 hown1 hd1 hd2 hg1 hgl2 hgrow; have HOW7 := hide hown1; have HG := hide hgrow; clear hown1 hgrow)
                  go_roundw
                  case rel =>
                    refine ⟨k + 1, some ⟨ga, 0, none⟩, 0 + 1, cg, _, by omega, by go_num, rfl, hd1, rfl, ?_, ?_, ?_, ?_, HB4.out.grown HG.out HB4.out.size (fun x hx => by have := (own_ltS HO4.out x hx).1; have := HQS.out; omega), hide (Nat.le_trans HSZ4.out HG.out.size)⟩
                    · rw [HST.out]; exact HSU
                    · rw [HST.out, HAD.out]; exact hide (by rw [List.length_append, HM.out]; rfl)
                    · rw [HST.out]; exact hide (own_keepS HR4.out (fun x hx => HG.out.block _ (own_ltS HR4.out x hx).2 (fun e => by have h1 := (own_ltS HO4.out _ e.symm).1; have h2 := hglq; have := own_blk hx; omega)))
                    · rw [HST.out, HAD.out, pcells_snoc]; exact HOW7
                  case measure => simp [intOf] <;> omega
                · obtain ⟨q, rfl⟩ : ∃ q, m = q + 1 := ⟨m - 1, by omega⟩
                  obtain ⟨g2, cc, hX, hg2, hcc2, hcm2, hg2l⟩ := own_formS HO3.out (by omega)
                  injection hX with hX1 _ hX2
                  subst hX1; subst hX2
                  have hql : q < out.length := by rw [HM.out]; omega
                  obtain ⟨jo, fo, to, hp⟩ : ∃ jo fo to, out.getD q p0 = ⟨jo, fo, to⟩ := ⟨_, _, _, rfl⟩
                  have hca := pcells_at out q hql
                  rw [hp] at hca
                  have y0 := own_cell HO4.out hca.1
                  have y2 := own_cell HO4.out hca.2.2
                  have f2 := own_free HO4.out (q * 3 + 2)
                  have HPQ := hide hp
                  have HS4 := hide (own_set HO4.out (i := q * 3 + 2) (by omega) (.int .i64 (to + 1)))
                  have hto : 0 ≤ to ∧ to ≤ 300 := by have h := HOK.out.pc q hql; simp only [] at h; rw [hp] at h; simp only [] at h; omega
                  obtain ⟨hto0, hto1⟩ := hto
                  have hgne : g2 ≠ gl := by omega
                  have hqi : ((q : Int) + 1) - 1 = q := by omega
                  have hql2 : (q : Int) < (q : Int) + 1 := by omega
                  clear hp hca hql
                  by_cases hjo : jo = (g : Int)
                  · by_cases hto2 : to = (k : Int)
                    · have e1 : (jo == (g : Int)) = true := by simp [hjo]
                      have e2 : (to == (k : Int)) = true := by simp [hto2]
                      have HAD : Hid (addP out g k = out.set q ⟨jo, fo, to + 1⟩) := by
                        rw [addP, HM.out, show q + 1 - 1 = q by omega, HPQ.out, if_pos ⟨by omega, hjo, hto2⟩, hto2]; exact hide rfl
                      clear hjo hto2
                      go_wp2
                      go_roundw
                      case rel =>
                        refine ⟨k + 1, some ⟨g2, 0, none⟩, q + 1, _, _, by omega, by go_num, rfl, hmc, rfl, ?_, ?_, ?_, ?_, HB4.out.setCell (show w.heap.size ≤ g2 by have := HQS.out; omega) _, by simp; exact HQ3⟩
                        · rw [HST.out]; exact HSU
                        · rw [HST.out, HAD.out]; exact hide (by rw [List.length_set]; exact HM.out)
                        · rw [HST.out]; exact hide (own_farS HR4.out (fun x hx e => hgne (by have := own_blk hx; omega)) _)
                        · rw [HST.out, HAD.out]
                          have e9 := pcells_set2 out q (to + 1) (by rw [HM.out]; omega)
                          rw [HPQ.out] at e9
                          rw [← e9]; exact HS4
                      case measure => simp [intOf] <;> omega
                    · have e1 : (jo == (g : Int)) = true := by simp [hjo]
                      have e2 : (to == (k : Int)) = false := by simp [hto2]
                      have HAD : Hid (addP out g k = out ++ [⟨g, k, k + 1⟩]) := by rw [addP, HM.out, show q + 1 - 1 = q by omega, HPQ.out, if_neg (fun h => hto2 h.2.2)]; exact hide rfl
                      clear hjo hto2
                      go_wp2_with (at_builtin; refine wpList_appS (w0 := w3.setCell ⟨gl, g, none⟩ (.int .i64 (tg - 1))) _ _ 31 36 (.agg #[.int .i64 0, .int .i64 0, .int .i64 0]) 3 24 rfl rfl Try.underlying31 info_rpiece rfl (by decide) wq.heap.size (.slice (some ⟨g2, 0, none⟩) (q + 1) c') (q + 1) (pcells out) [.int .i64 (g : Nat), .int .i64 (k : Nat), .int .i64 ((k : Int) + 1)] rfl rfl (by simp [Act.eval]) rfl ⟨_, rfl⟩ HO4.out hone (by omega) (by omega) HSZ4.out ?_; intro ga cg w7 hown1 hd1 hd2 hg1 hgl2 hgrow; have HOW7 := hide hown1; have HG := hide hgrow; clear hown1 hgrow)
                      go_roundw
                      case rel =>
                        refine ⟨k + 1, some ⟨ga, 0, none⟩, (q + 1) + 1, cg, _, by omega, by go_num, rfl, hd1, rfl, ?_, ?_, ?_, ?_, HB4.out.grown HG.out HB4.out.size (fun x hx => by have := (own_ltS HO4.out x hx).1; have := HQS.out; omega), hide (Nat.le_trans HSZ4.out HG.out.size)⟩
                        · rw [HST.out]; exact HSU
                        · rw [HST.out, HAD.out]; exact hide (by rw [List.length_append, HM.out]; rfl)
                        · rw [HST.out]; exact hide (own_keepS HR4.out (fun x hx => HG.out.block _ (own_ltS HR4.out x hx).2 (fun e => by have h1 := (own_ltS HO4.out _ e.symm).1; have h2 := hglq; have := own_blk hx; omega)))
                        · rw [HST.out, HAD.out, pcells_snoc]; exact HOW7
                      case measure => simp [intOf] <;> omega
                  · have e1 : (jo == (g : Int)) = false := by simp [hjo]
                    have HAD : Hid (addP out g k = out ++ [⟨g, k, k + 1⟩]) := by rw [addP, HM.out, show q + 1 - 1 = q by omega, HPQ.out, if_neg (fun h => hjo h.2.1)]; exact hide rfl
                    clear hjo
                    go_wp2_with (at_builtin; refine wpList_appS (w0 := w3.setCell ⟨gl, g, none⟩ (.int .i64 (tg - 1))) _ _ 31 36 (.agg #[.int .i64 0, .int .i64 0, .int .i64 0]) 3 24 rfl rfl Try.underlying31 info_rpiece rfl (by decide) wq.heap.size (.slice (some ⟨g2, 0, none⟩) (q + 1) c') (q + 1) (pcells out) [.int .i64 (g : Nat), .int .i64 (k : Nat), .int .i64 ((k : Int) + 1)] rfl rfl (by simp [Act.eval]) rfl ⟨_, rfl⟩ HO4.out hone (by omega) (by omega) HSZ4.out ?_; intro ga cg w7 hown1 hd1 hd2 hg1 hgl2 hgrow; have HOW7 := hide hown1; have HG := hide hgrow; clear hown1 hgrow)
                    go_roundw
                    case rel =>
                      refine ⟨k + 1, some ⟨ga, 0, none⟩, (q + 1) + 1, cg, _, by omega, by go_num, rfl, hd1, rfl, ?_, ?_, ?_, ?_, HB4.out.grown HG.out HB4.out.size (fun x hx => by have := (own_ltS HO4.out x hx).1; have := HQS.out; omega), hide (Nat.le_trans HSZ4.out HG.out.size)⟩
                      · rw [HST.out]; exact HSU
                      · rw [HST.out, HAD.out]; exact hide (by rw [List.length_append, HM.out]; rfl)
                      · rw [HST.out]; exact hide (own_keepS HR4.out (fun x hx => HG.out.block _ (own_ltS HR4.out x hx).2 (fun e => by have h1 := (own_ltS HO4.out _ e.symm).1; have h2 := hglq; have := own_blk hx; omega)))
                      · rw [HST.out, HAD.out, pcells_snoc]; exact HOW7
                    case measure => simp [intOf] <;> omega
end Go.Proofs.Ytiadineakhcclaa

/-
  The reference's plan, by rule 1.
-/
namespace Go.Proofs.Ytiadineakhcclaa
open Go.RowKit
set_option linter.unusedVariables false
set_option linter.unusedSimpArgs false

set_option maxRecDepth 100000 in
set_option maxHeartbeats 3200000 in
theorem refplanS_any (A : Option Addr) (n c : Nat) (L : List J4) (w : World) (hn : L.length = n) (hL : JobsOk L) (hA : JobsA w w.heap.size A L) :
    Calls Try.prog 57 #[.slice A n c, .int .i64 1] w fun e w' => ∃ X m c', e = .returned (.slice X m c') ∧ (planN true L).length = m ∧ m ≤ c' ∧ PcsA w' w'.heap.size X (planN true L) ∧ Below w.heap.size w w' := by
  have info_rpiece : (Try.prog.info? 36).map (fun i => (i.zero, i.size, i.bytes)) = some (some (.agg #[.int .i64 0, .int .i64 0, .int .i64 0]), 3, 24) := by kernel_rfl
  have h8 : n ≤ 8 := by rw [← hn]; exact hL.le
  have h1 : 1 ≤ n := by rw [← hn]; exact hL.pos
  have HN := hide hn
  have HL := hide hL
  have HA := hide hA
  have HTB := hide (fun i (hi : i < n) => (hL.at_ i (by rw [hn]; exact hi)))
  have HTL0 : Hid ((timesOf L).length = n) := by rw [timesOf, List.length_map]; exact hn
  clear hn hL hA
  go_enter Try.func57, Try.ntmps57
  go_wp2
  go_loopw [6, 7, 17] (fun v6 v7 v wr => ∃ (k : Nat) (X : Option Addr) (c' : Nat) (z : Int), k ≤ n ∧ v = .int .i64 k ∧ v6 = .slice X k c' ∧ k ≤ c' ∧ v7 = .int .i64 z ∧ 0 ≤ z ∧ z ≤ 20 * k ∧ Hid (z = sumT (timesOf L) k) ∧ Hid (wr.ownsRow w.heap.size 3 1 (.slice X k c') k (((timesOf L).take k).map (Value.int .i64))) ∧ Below w.heap.size w wr) (fun _ _ v _ => n - (intOf v).toNat)
  case atStart => exact ⟨0, none, 0, 0, Nat.zero_le _, rfl, rfl, Nat.le_refl _, rfl, by omega, by omega, hide rfl, hide (World.ownsRow_nil _ _ _ _), Below.refl _ _⟩
  case round =>
    obtain ⟨k, X, cl, z, hk, rfl, rfl, hkc, rfl, hz0, hz1, HZ, HO, hb⟩ := hrel
    have HB := hide hb
    by_cases hlt : k < n
    · obtain ⟨bj, oj, t, r, d, u, rfl, hbj, hc0, hc1, hc2, hc3, hx⟩ := (HA.out.below hb).at_ (k := k) (by rw [HN.out]; exact hlt)
      have hkn : (k : Int) < (n : Int) := by omega
      have htb := HTB.out k hlt
      rw [hx.out] at htb
      simp only [] at htb
      obtain ⟨ht0, ht1, _⟩ := htb
      have HT : Hid ((timesOf L).getD k 0 = t) := by rw [timesOf_getD, hx.out]; exact hide rfl
      have HTK : Hid ((timesOf L).take (k + 1) = (timesOf L).take k ++ [t]) := by
        rw [take_snoc_int _ _ (by rw [HTL0.out]; exact hlt), HT.out]; exact hide rfl
      have HBA : Hid (∀ o, Below w.heap.size w (wr.alloc o)) := fun o => HB.out.alloc HB.out.size _
      have HJC : Hid (∀ w3 : World, (wr.alloc (.cells #[.int .i64 t, .int .i64 r, .int .i64 d, .int .i64 u] 43)).grownBy w3 (Value.slice X k cl).ownBlock → w3.cell? ⟨wr.heap.size, 0, none⟩ = some (.int .i64 t)) := fun w3 hg =>
        hg.cell (a := ⟨wr.heap.size, 0, none⟩) (by rw [World.cell?_alloc_at _ _ _ _ rfl]; rfl) (fun e => by have := (own_ltS HO.out _ e.symm).2; exact absurd this (Nat.lt_irrefl _))
      clear hx hb
      go_wp2_with (at_builtin; refine wpList_app1 (w0 := wr.alloc (.cells #[.int .i64 t, .int .i64 r, .int .i64 d, .int .i64 u] 43)) _ _ 41 3 (.int .i64 0) 8 rfl rfl Try.underlying41 info_int rfl w.heap.size (.slice X k cl) k _ (.int .i64 t) rfl (by simp [Act.eval]) rfl ⟨_, rfl⟩ (HO.out.alloc _) rfl (by omega) (by omega) (HBA.out _).size ?_; intro g2 cg w3 hown1 hd1 hd2 hg1 hgl2 hgrow; have HOW1 := hide hown1; have HG := hide hgrow; have hjc := HJC.out _ hgrow; clear hown1 hgrow)
      go_roundw
      case rel =>
        refine ⟨k + 1, some ⟨g2, 0, none⟩, cg, _, by omega, by go_num, rfl, hd1, rfl, by omega, by omega, hide ?_, ?_, (HBA.out _).grown HG.out (HBA.out _).size (fun q hq => (own_ltS HO.out q hq).1)⟩
        · rw [sumT, HT.out, ← HZ.out]
        · rw [HTK.out]
          exact hide (by rw [List.map_append]; exact HOW1.out)
      case measure => simp [intOf] <;> omega
    · obtain rfl : n = k := by omega
      obtain ⟨wq, rfl⟩ : ∃ wq : World, wq = wr := ⟨_, rfl⟩
      obtain ⟨gl, cc, hX, hgl0, hcc, hcm, hglq⟩ := own_formS HO.out (by omega)
      injection hX with hX1 _ hX2
      subst hX1; subst hX2
      have HTK : Hid ((timesOf L).take n = (runP true L 0).1) := List.take_of_length_le (by rw [HTL0.out]; exact Nat.le_refl _)
      rw [HTK.out] at HO
      have HZ0 : Hid (z = sumT (runP true L 0).1 n) := HZ.out
      clear hb HZ HTK
      go_wp2
      go_loopw [5, 7, 10] (fun v5 v7 v10 w2 => ∃ (k : Nat) (X : Option Addr) (m c' : Nat) (y : Int), k ≤ 300 ∧ v10 = .int .i64 k ∧ v5 = .slice X m c' ∧ m ≤ c' ∧ v7 = .int .i64 y ∧ Hid (y = sumT (runP true L k).1 n) ∧ Hid ((runP true L k).2.length = m) ∧ Hid (w2.ownsRow w.heap.size 3 1 (.slice (some ⟨gl, 0, none⟩) n cl) n ((runP true L k).1.map (Value.int .i64))) ∧
          Hid (w2.ownsRow wq.heap.size 36 3 (.slice X m c') m (pcells (runP true L k).2)) ∧ Below w.heap.size w w2 ∧ Hid (wq.heap.size ≤ w2.heap.size)) (fun _ _ v10 _ => 300 - (intOf v10).toNat)
      case atStart => exact ⟨0, none, 0, 0, z, by omega, rfl, rfl, Nat.le_refl _, rfl, HZ0, hide rfl, HO, hide (World.ownsRow_nil _ _ _ _), HB.out, hide (Nat.le_refl _)⟩
      case round =>
        obtain ⟨k, X, m, c', y, hk, rfl, rfl, hmc, rfl, HSY, HM, HT, HO2, hb2, HWQ⟩ := hrel
        obtain ⟨w2, rfl⟩ : ∃ w2 : World, w2 = wr := ⟨_, rfl⟩
        have HB2 := hide hb2
        have HOK := hide (runP_ok true HL.out k)
        have HZE := hide (fun h => runP_end (sh := true) (k := k) HL.out h)
        have HZ3 := hide (fun h => runP_300 (sh := true) (k := k) HL.out h)
        obtain ⟨s, hs⟩ : ∃ s, runP true L k = s := ⟨_, rfl⟩
        have HSN : Hid (runP true L (k + 1) = stepP true L k s) := by rw [← hs]; rfl
        rw [hs] at HM HT HO2 HOK HZE HZ3 HSY
        clear hs
        obtain ⟨t, out⟩ := s
        have HTL : Hid (t.length = n) := by rw [← HN.out]; exact HOK.out.len
        have HTB2 : Hid (∀ i, i < n → 0 ≤ t.getD i 0 ∧ t.getD i 0 ≤ 20) := fun i hi => by
          have h1 := HOK.out.bd i (by rw [HN.out]; exact hi)
          have h2 := HTB.out i hi
          simp only [] at h1
          omega
        have HIT : Hid (IntsA w2 w2.heap.size (some ⟨gl, 0, none⟩) t) := ints_of_own HT.out
        have hyb : 0 ≤ y ∧ y ≤ 160 := by
          have e := HSY.out
          simp only [] at e
          have h1 := sumT_nonneg (t := t) (n := n) (fun i hi => (HTB2.out i hi).1) n (Nat.le_refl _)
          have h2 := sumT_le (t := t) (n := n) (m := 20) (fun i hi => (HTB2.out i hi).2) n (Nat.le_refl _)
          omega
        obtain ⟨hy0, hy1⟩ := hyb
        have HSZ := hide (sumT_z HTL.out (fun i hi => (HTB2.out i hi).1))
        clear hb2
        by_cases hz : AllZ t
        · have hd : decide (0 < y) = false := decide_eq_false (fun h => by have e := HSY.out; simp only [] at e; have := HSZ.out.2 hz; omega)
          have HE : Hid (out = planN true L) := HZE.out hz
          have HPO := hide (pcs_of_own HO2.out)
          clear hz
          go_wp2
          go_ret
          exact ⟨X, m, c', rfl, by rw [← HE.out]; exact HM.out, hmc, by rw [← HE.out]; exact HPO.out, HB2.out⟩
        · have hyp : 0 < y := Classical.byContradiction fun h => hz (HSZ.out.1 (by have e := HSY.out; simp only [] at e; omega))
          have hd : decide (0 < y) = true := decide_eq_true hyp
          have hk3 : k < 300 := Nat.lt_of_not_le fun h => hz (HZ3.out h)
          clear hz
          go_wp2
          go_loopw [11, 37] (fun v10 v37 w3 => ∃ (i : Nat) (z : Int), i ≤ n ∧ v37 = .int .i64 i ∧ v10 = .int .i64 z ∧ -1 ≤ z ∧ z < i ∧ Hid (z = pkTo true L t k i) ∧ Below w2.heap.size w2 w3) (fun _ v37 _ => n - (intOf v37).toNat)
          case atStart => exact ⟨0, -1, Nat.zero_le _, rfl, rfl, by omega, by omega, hide rfl, Below.refl _ _⟩
          case round =>
            obtain ⟨i, z, hi, rfl, rfl, hz0, hz1, HZ, hb3⟩ := hrel
            obtain ⟨w3, rfl⟩ : ∃ w3 : World, w3 = wr := ⟨_, rfl⟩
            have HB3 := hide hb3
            have HW3 := hide (HB2.out.trans (hb3.mono HB2.out.size))
            by_cases hlt : i < n
            · obtain ⟨bj, oj, t', r, d, u, rfl, hbj, hc0, hc1, hc2, hc3, hx⟩ := ((HA.out.below HW3.out).more (Nat.le_trans HB2.out.size HB3.out.size)).at_ (k := i) (by rw [HN.out]; exact hlt)
              have hin : (i : Int) < (n : Int) := by omega
              obtain ⟨bt, ot, ti, e1, hbt, hci, hti⟩ := (HIT.out.next hb3).at_ (k := i) (by rw [HTL.out]; exact hlt)
              injection e1 with e1; injection e1 with e2 e3
              subst e2; subst e3
              rw [Nat.zero_add] at hci
              have htib := HTB2.out i hlt
              rw [hti.out] at htib
              obtain ⟨htib0, htib1⟩ := htib
              have HX := hide hx.out
              have HTI := hide hti.out
              clear hx hti hb3
              have HBW : Hid (∀ o, Below w2.heap.size w2 (w3.alloc o)) := fun o => HB3.out.alloc HB3.out.size _
              have HBWD : Hid (∀ o q, Below w2.heap.size w2 ((w3.alloc o).drewN q)) := fun o q => below_drewN (HBW.out o) q
              by_cases hr : r ≤ (k : Int)
              · by_cases ht0 : 0 < ti
                · have d1 : decide ((k : Int) < r) = false := decide_eq_false (by omega)
                  have d2 : (ti == 0) = false := by simp; omega
                  by_cases hz : z < 0
                  · have d3 : decide (z < 0) = true := decide_eq_true hz
                    have HNX : Hid ((i : Int) = pkTo true L t k (i + 1)) := by rw [pkTo, if_pos ⟨by rw [HX.out]; exact hr, by rw [HTI.out]; exact ht0, .inl (by rw [← HZ.out]; exact hz)⟩]; exact hide rfl
                    go_wp2
                    go_quiet (fail)
                    go_wp2
                    go_roundw
                    case rel => exact ⟨i + 1, (i : Int), by omega, by go_num, rfl, by omega, by omega, HNX, HBWD.out _ _⟩
                    case measure => simp [intOf] <;> omega
                  · have d3 : decide (z < 0) = false := decide_eq_false hz
                    obtain ⟨g, rfl⟩ : ∃ g : Nat, z = g := ⟨z.toNat, by omega⟩
                    have hgi : (g : Int) < (n : Int) := by omega
                    obtain ⟨bj2, oj2, t2, r2, dg, u2, e1, hbj2, hg0, hg1, hg2, hg3, hxg⟩ := ((HA.out.below HW3.out).more (Nat.le_trans HB2.out.size HB3.out.size)).at_ (k := g) (by rw [HN.out]; omega)
                    injection e1 with e1; injection e1 with e2 e3
                    subst e2; subst e3
                    obtain ⟨bt, ot, tg, e1, hbt2, hcg, htg⟩ := (HIT.out.next HB3.out).at_ (k := g) (by rw [HTL.out]; omega)
                    injection e1 with e1; injection e1 with e2 e3
                    subst e2; subst e3
                    rw [Nat.zero_add] at hcg
                    have HKEY : Hid (keyP true L t i < keyP true L t g ↔ ti < tg) := by
                      unfold keyP; rw [if_pos rfl, if_pos rfl, HTI.out, htg.out]; exact Iff.rfl
                    clear hxg htg
                    by_cases hq : ti < tg
                    · have dq : decide (ti < tg) = true := decide_eq_true hq
                      have HNX : Hid ((i : Int) = pkTo true L t k (i + 1)) := by
                        rw [pkTo, ← HZ.out, if_pos ⟨by rw [HX.out]; exact hr, by rw [HTI.out]; exact ht0, .inr (HKEY.out.2 hq)⟩]; exact hide rfl
                      go_wp2
                      go_quiet (fail)
                      go_wp2
                      go_roundw
                      case rel => exact ⟨i + 1, (i : Int), by omega, by go_num, rfl, by omega, by omega, HNX, HBWD.out _ _⟩
                      case measure => simp [intOf] <;> omega
                    · have dq : decide (ti < tg) = false := decide_eq_false hq
                      have HNX : Hid ((g : Int) = pkTo true L t k (i + 1)) := by
                        rw [pkTo, ← HZ.out, if_neg (fun h => by rcases h.2.2 with h | h; exact hz h; exact hq (HKEY.out.1 h))]; exact hide rfl
                      go_wp2
                      go_quiet (fail)
                      go_wp2
                      go_roundw
                      case rel => exact ⟨i + 1, (g : Int), by omega, by go_num, rfl, by omega, by omega, HNX, HBWD.out _ _⟩
                      case measure => simp [intOf] <;> omega
                · have d1 : decide ((k : Int) < r) = false := decide_eq_false (by omega)
                  have HNX : Hid (z = pkTo true L t k (i + 1)) := by rw [pkTo, if_neg (fun h => ht0 (by rw [← HTI.out]; exact h.2.1))]; exact HZ.out
                  obtain rfl : ti = 0 := by omega
                  clear ht0
                  go_wp2
                  go_roundw
                  case rel => exact ⟨i + 1, z, by omega, by go_num, rfl, by omega, by omega, HNX, HBW.out _⟩
                  case measure => simp [intOf] <;> omega
              · have d1 : decide ((k : Int) < r) = true := decide_eq_true (by omega)
                have HNX : Hid (z = pkTo true L t k (i + 1)) := by rw [pkTo, if_neg (fun h => hr (by have := h.1; rw [HX.out] at this; exact this))]; exact HZ.out
                go_wp2
                go_roundw
                case rel => exact ⟨i + 1, z, by omega, by go_num, rfl, by omega, by omega, HNX, HBW.out _⟩
                case measure => simp [intOf] <;> omega
            · obtain rfl : n = i := by omega
              have HPK : Hid (z = pk true L t k) := by rw [pk, HN.out]; exact HZ.out
              have HR3 := hide (own_keepS HT.out (fun g hg => HB3.out.block g (own_ltS HT.out g hg).2))
              have HO3 := hide (own_keepS HO2.out (fun g hg => HB3.out.block g (own_ltS HO2.out g hg).2))
              by_cases hz : z < 0
              · have d3 : decide (z < 0) = true := decide_eq_true hz
                have HST : Hid (runP true L (k + 1) = (t, out)) := by rw [HSN.out, stepP]; simp only []; rw [← HPK.out, if_pos hz]; exact hide rfl
                clear hb3
                go_wp2
                go_roundw
                case rel => exact ⟨k + 1, X, m, c', y, by omega, by go_num, rfl, hmc, rfl, by rw [HST.out]; exact HSY, by rw [HST.out]; exact HM, by rw [HST.out]; exact HR3, by rw [HST.out]; exact HO3, HW3.out, hide (Nat.le_trans HWQ.out HB3.out.size)⟩
                case measure => simp [intOf] <;> omega
              · have d3 : decide (z < 0) = false := decide_eq_false hz
                obtain ⟨g, rfl⟩ : ∃ g : Nat, z = g := ⟨z.toNat, by omega⟩
                have hgn : g < n := by omega
                have hgi : (g : Int) < (n : Int) := by omega
                obtain ⟨tg, htg⟩ : ∃ tg, t.getD g 0 = tg := ⟨_, rfl⟩
                have HST : Hid (runP true L (k + 1) = (t.set g (tg - 1), addP out g k)) := by rw [HSN.out, stepP]; simp only []; rw [← HPK.out, if_neg hz, Int.toNat_natCast, htg]; exact hide rfl
                have HSU : Hid (y - 1 = sumT (t.set g (tg - 1)) n) := by rw [sumT_set (by rw [HTL.out]; exact hgn), if_pos hgn, ← HSY.out, htg]; exact hide (by omega)
                have hcg : w3.cell? ⟨gl, g, none⟩ = some (.int .i64 tg) := own_cell HR3.out (by rw [List.getElem?_map, List.getElem?_eq_getElem (by rw [HTL.out]; exact hgn), getD_cons_of (d := 0) (by rw [HTL.out]; exact hgn), htg]; rfl)
                have hfg : w3.frozen? ⟨gl, g, none⟩ = false := own_free HR3.out g
                have hs3 : gl < w3.heap.size := (own_ltS HR3.out gl rfl).2
                have HQS : Hid (w.heap.size ≤ wq.heap.size) := hide HB.out.size
                have HQ3 : Hid (wq.heap.size ≤ w3.heap.size) := hide (Nat.le_trans HWQ.out HB3.out.size)
                have HR4 : Hid ((w3.setCell ⟨gl, g, none⟩ (.int .i64 (tg - 1))).ownsRow w.heap.size 3 1 (.slice (some ⟨gl, 0, none⟩) n cl) n ((t.set g (tg - 1)).map (Value.int .i64))) := by
                  rw [List.map_set]; exact hide (own_set HR3.out (by omega) _)
                have HO4 := hide (own_farS (b' := gl) (i := g) HO3.out (fun x hx h => by have := (own_ltS HO3.out x hx).1; omega) (.int .i64 (tg - 1)))
                have htb := HTB2.out g hgn
                rw [htg] at htb
                obtain ⟨htb0, htb1⟩ := htb
                have HTG := hide htg
                have HB4 : Hid (Below w.heap.size w (w3.setCell ⟨gl, g, none⟩ (.int .i64 (tg - 1)))) := HW3.out.setCell (show w.heap.size ≤ gl from hgl0) _
                have hmk : m ≤ 300 := by have := HOK.out.num; have := HM.out; simp only [] at *; omega
                have HSZ4 : Hid (wq.heap.size ≤ (w3.setCell ⟨gl, g, none⟩ (.int .i64 (tg - 1))).heap.size) := by simp; exact HQ3
                have hone : ∀ u ∈ [Value.int .i64 (g : Nat), .int .i64 (k : Nat), .int .i64 ((k : Int) + 1)], u.oneCell' = true := by intro u hu; simp at hu; rcases hu with rfl | rfl | rfl <;> rfl
                clear htg hb3
                by_cases hm0 : m = 0
                · subst hm0
                  have HAD : Hid (addP out g k = out ++ [⟨g, k, k + 1⟩]) := by rw [addP, if_neg (fun h => by have := HM.out; omega)]; exact hide rfl
                  go_wp2_with (at_builtin; refine wpList_appS (w0 := w3.setCell ⟨gl, g, none⟩ (.int .i64 (tg - 1))) _ _ 31 36 (.agg #[.int .i64 0, .int .i64 0, .int .i64 0]) 3 24 rfl rfl Try.underlying31 info_rpiece rfl (by decide) wq.heap.size (.slice X 0 c') 0 (pcells out) [.int .i64 (g : Nat), .int .i64 (k : Nat), .int .i64 ((k : Int) + 1)] rfl rfl (by simp [Act.eval]) rfl ⟨_, rfl⟩ HO4.out hone (by omega) (by omega) HSZ4.out ?_; intro ga cg w7 hown1 hd1 hd2 hg1 hgl2 hgrow; have HOW7 := hide hown1; have HG := hide hgrow; clear hown1 hgrow)
                  go_roundw
                  case rel =>
                    refine ⟨k + 1, some ⟨ga, 0, none⟩, 0 + 1, cg, _, by omega, by go_num, rfl, hd1, rfl, ?_, ?_, ?_, ?_, HB4.out.grown HG.out HB4.out.size (fun x hx => by have := (own_ltS HO4.out x hx).1; have := HQS.out; omega), hide (Nat.le_trans HSZ4.out HG.out.size)⟩
                    · rw [HST.out]; exact HSU
                    · rw [HST.out, HAD.out]; exact hide (by rw [List.length_append, HM.out]; rfl)
                    · rw [HST.out]; exact hide (own_keepS HR4.out (fun x hx => HG.out.block _ (own_ltS HR4.out x hx).2 (fun e => by have h1 := (own_ltS HO4.out _ e.symm).1; have h2 := hglq; have := own_blk hx; omega)))
                    · rw [HST.out, HAD.out, pcells_snoc]; exact HOW7
                  case measure => simp [intOf] <;> omega
                · obtain ⟨q, rfl⟩ : ∃ q, m = q + 1 := ⟨m - 1, by omega⟩
                  obtain ⟨g2, cc, hX, hg2, hcc2, hcm2, hg2l⟩ := own_formS HO3.out (by omega)
                  injection hX with hX1 _ hX2
                  subst hX1; subst hX2
                  have hql : q < out.length := by rw [HM.out]; omega
                  obtain ⟨jo, fo, to, hp⟩ : ∃ jo fo to, out.getD q p0 = ⟨jo, fo, to⟩ := ⟨_, _, _, rfl⟩
                  have hca := pcells_at out q hql
                  rw [hp] at hca
                  have y0 := own_cell HO4.out hca.1
                  have y2 := own_cell HO4.out hca.2.2
                  have f2 := own_free HO4.out (q * 3 + 2)
                  have HPQ := hide hp
                  have HS4 := hide (own_set HO4.out (i := q * 3 + 2) (by omega) (.int .i64 (to + 1)))
                  have hto : 0 ≤ to ∧ to ≤ 300 := by have h := HOK.out.pc q hql; simp only [] at h; rw [hp] at h; simp only [] at h; omega
                  obtain ⟨hto0, hto1⟩ := hto
                  have hgne : g2 ≠ gl := by omega
                  have hqi : ((q : Int) + 1) - 1 = q := by omega
                  have hql2 : (q : Int) < (q : Int) + 1 := by omega
                  clear hp hca hql
                  by_cases hjo : jo = (g : Int)
                  · by_cases hto2 : to = (k : Int)
                    · have e1 : (jo == (g : Int)) = true := by simp [hjo]
                      have e2 : (to == (k : Int)) = true := by simp [hto2]
                      have HAD : Hid (addP out g k = out.set q ⟨jo, fo, to + 1⟩) := by
                        rw [addP, HM.out, show q + 1 - 1 = q by omega, HPQ.out, if_pos ⟨by omega, hjo, hto2⟩, hto2]; exact hide rfl
                      clear hjo hto2
                      go_wp2
                      go_roundw
                      case rel =>
                        refine ⟨k + 1, some ⟨g2, 0, none⟩, q + 1, _, _, by omega, by go_num, rfl, hmc, rfl, ?_, ?_, ?_, ?_, HB4.out.setCell (show w.heap.size ≤ g2 by have := HQS.out; omega) _, by simp; exact HQ3⟩
                        · rw [HST.out]; exact HSU
                        · rw [HST.out, HAD.out]; exact hide (by rw [List.length_set]; exact HM.out)
                        · rw [HST.out]; exact hide (own_farS HR4.out (fun x hx e => hgne (by have := own_blk hx; omega)) _)
                        · rw [HST.out, HAD.out]
                          have e9 := pcells_set2 out q (to + 1) (by rw [HM.out]; omega)
                          rw [HPQ.out] at e9
                          rw [← e9]; exact HS4
                      case measure => simp [intOf] <;> omega
                    · have e1 : (jo == (g : Int)) = true := by simp [hjo]
                      have e2 : (to == (k : Int)) = false := by simp [hto2]
                      have HAD : Hid (addP out g k = out ++ [⟨g, k, k + 1⟩]) := by rw [addP, HM.out, show q + 1 - 1 = q by omega, HPQ.out, if_neg (fun h => hto2 h.2.2)]; exact hide rfl
                      clear hjo hto2
                      go_wp2_with (at_builtin; refine wpList_appS (w0 := w3.setCell ⟨gl, g, none⟩ (.int .i64 (tg - 1))) _ _ 31 36 (.agg #[.int .i64 0, .int .i64 0, .int .i64 0]) 3 24 rfl rfl Try.underlying31 info_rpiece rfl (by decide) wq.heap.size (.slice (some ⟨g2, 0, none⟩) (q + 1) c') (q + 1) (pcells out) [.int .i64 (g : Nat), .int .i64 (k : Nat), .int .i64 ((k : Int) + 1)] rfl rfl (by simp [Act.eval]) rfl ⟨_, rfl⟩ HO4.out hone (by omega) (by omega) HSZ4.out ?_; intro ga cg w7 hown1 hd1 hd2 hg1 hgl2 hgrow; have HOW7 := hide hown1; have HG := hide hgrow; clear hown1 hgrow)
                      go_roundw
                      case rel =>
                        refine ⟨k + 1, some ⟨ga, 0, none⟩, (q + 1) + 1, cg, _, by omega, by go_num, rfl, hd1, rfl, ?_, ?_, ?_, ?_, HB4.out.grown HG.out HB4.out.size (fun x hx => by have := (own_ltS HO4.out x hx).1; have := HQS.out; omega), hide (Nat.le_trans HSZ4.out HG.out.size)⟩
                        · rw [HST.out]; exact HSU
                        · rw [HST.out, HAD.out]; exact hide (by rw [List.length_append, HM.out]; rfl)
                        · rw [HST.out]; exact hide (own_keepS HR4.out (fun x hx => HG.out.block _ (own_ltS HR4.out x hx).2 (fun e => by have h1 := (own_ltS HO4.out _ e.symm).1; have h2 := hglq; have := own_blk hx; omega)))
                        · rw [HST.out, HAD.out, pcells_snoc]; exact HOW7
                      case measure => simp [intOf] <;> omega
                  · have e1 : (jo == (g : Int)) = false := by simp [hjo]
                    have HAD : Hid (addP out g k = out ++ [⟨g, k, k + 1⟩]) := by rw [addP, HM.out, show q + 1 - 1 = q by omega, HPQ.out, if_neg (fun h => hjo h.2.1)]; exact hide rfl
                    clear hjo
                    go_wp2_with (at_builtin; refine wpList_appS (w0 := w3.setCell ⟨gl, g, none⟩ (.int .i64 (tg - 1))) _ _ 31 36 (.agg #[.int .i64 0, .int .i64 0, .int .i64 0]) 3 24 rfl rfl Try.underlying31 info_rpiece rfl (by decide) wq.heap.size (.slice (some ⟨g2, 0, none⟩) (q + 1) c') (q + 1) (pcells out) [.int .i64 (g : Nat), .int .i64 (k : Nat), .int .i64 ((k : Int) + 1)] rfl rfl (by simp [Act.eval]) rfl ⟨_, rfl⟩ HO4.out hone (by omega) (by omega) HSZ4.out ?_; intro ga cg w7 hown1 hd1 hd2 hg1 hgl2 hgrow; have HOW7 := hide hown1; have HG := hide hgrow; clear hown1 hgrow)
                    go_roundw
                    case rel =>
                      refine ⟨k + 1, some ⟨ga, 0, none⟩, (q + 1) + 1, cg, _, by omega, by go_num, rfl, hd1, rfl, ?_, ?_, ?_, ?_, HB4.out.grown HG.out HB4.out.size (fun x hx => by have := (own_ltS HO4.out x hx).1; have := HQS.out; omega), hide (Nat.le_trans HSZ4.out HG.out.size)⟩
                      · rw [HST.out]; exact HSU
                      · rw [HST.out, HAD.out]; exact hide (by rw [List.length_append, HM.out]; rfl)
                      · rw [HST.out]; exact hide (own_keepS HR4.out (fun x hx => HG.out.block _ (own_ltS HR4.out x hx).2 (fun e => by have h1 := (own_ltS HO4.out _ e.symm).1; have h2 := hglq; have := own_blk hx; omega)))
                      · rw [HST.out, HAD.out, pcells_snoc]; exact HOW7
                    case measure => simp [intOf] <;> omega
end Go.Proofs.Ytiadineakhcclaa

/-
  The reference: ends, Plan, Short, Delay.
-/
namespace Go.Proofs.Ytiadineakhcclaa
open Go.RowKit Go.Deep
set_option linter.unusedVariables false
set_option linter.unusedSimpArgs false

set_option maxHeartbeats 1600000 in
theorem refends_any (A : Option Addr) (n c : Nat) (P : Option Addr) (m pc : Nat) (p : List P3) (w : World) (hn : n ≤ 8) (hm : p.length = m) (hmm : m ≤ 9223372036854775807) (hok : PcOk n p) (hP : PcsA w w.heap.size P p) :
    Calls Try.prog 58 #[.slice A n c, .slice P m pc] w fun e w' => ∃ X c', e = .returned (.slice X n c') ∧ n ≤ c' ∧ IntsA w' w'.heap.size X (finN n p) ∧ Below w.heap.size w w' := by
  have hmk := run_make_row' (P := Try.prog) 41 3 (.int .i64 0) 8 Try.underlying41 info_int rfl .i64 .i64 n (by omega) (by omega)
  obtain ⟨w1, hw1⟩ : ∃ w1, w1 = w.alloc (.cells (madeCells #[.int .i64 0] n) 3) := ⟨_, rfl⟩
  have HR1 : Hid (w1.rowIs w.heap.size 3 n (fun a => .int .i64 ((finTo n p 0).getD a 0))) := by
    subst hw1
    refine (World.rowIs_made w (.int .i64 0) n _).congr fun a ha => ?_
    rw [finTo, List.getD_eq_getElem?_getD, List.getElem?_replicate, if_pos ha]; rfl
  have HB1 : Hid (Below w.heap.size w w1) := by subst hw1; exact (Below.refl _ _).alloc (Nat.le_refl _) _
  have HM := hide hm
  have HOK := hide hok
  have HP := hide hP
  have hmn : (0 : Int) ≤ n := by omega
  clear hm hok hP
  go_enter Try.func58, Try.ntmps58
  go_wp2
  rw [← hw1]
  clear hw1 hmk
  go_loopw [13] (fun v wr => ∃ k : Nat, k ≤ m ∧ v = .int .i64 k ∧ Hid (wr.rowIs w.heap.size 3 n (fun a => .int .i64 ((finTo n p k).getD a 0))) ∧ Below w.heap.size w wr) (fun v _ => m - (intOf v).toNat)
  case atStart => exact ⟨0, Nat.zero_le _, rfl, HR1, HB1.out⟩
  case round =>
    obtain ⟨k, hk, rfl, HR, hb⟩ := hrel
    have HB := hide hb
    by_cases hlt : k < m
    · obtain ⟨bj, oj, j, f, t, rfl, hbj, hc0, hc1, hc2, hx⟩ := (HP.out.below hb).at_ (k := k) (by rw [HM.out]; exact hlt)
      have hkn : (k : Int) < (m : Int) := by omega
      have hj := HOK.out k (by rw [HM.out]; exact hlt)
      rw [hx.out] at hj
      obtain ⟨i, rfl⟩ : ∃ i : Nat, j = i := ⟨j.toNat, by have := hj.1; simp only [] at this; omega⟩
      have hi : i < n := by have := hj.2; simp only [] at this; omega
      have hin : (i : Int) < (n : Int) := by omega
      have hfz := HR.out.frozen i
      have hcr : ∃ v, wr.cell? ⟨w.heap.size, i, none⟩ = some v := ⟨_, HR.out.cell hi⟩
      obtain ⟨v, hcr⟩ := hcr
      have hs3 : w.heap.size < wr.heap.size := HR.out.lt
      have HX := hide hx.out
      clear hx hb hj
      go_wp2
      go_roundw
      case rel =>
        refine ⟨k + 1, by omega, by go_num, hide (((HR.out.set i _).alloc _).congr fun a ha => ?_), (HB.out.setCell (Nat.le_refl _) _).alloc (by simp; exact HB.out.size) _⟩
        rw [finTo, HX.out]
        show (if a = i then Value.int .i64 t else Value.int .i64 ((finTo n p k).getD a 0)) = Value.int .i64 (((finTo n p k).set i t).getD a 0)
        rw [getD_set_i _ _ _ _ _ (by rw [finTo_len]; exact hi)]
        by_cases e : a = i
        · rw [if_pos e, if_pos e]
        · rw [if_neg e, if_neg e]
      case measure => simp [intOf] <;> omega
    · obtain rfl : m = k := by omega
      have HI := hide (ints_of_row HR.out (by rw [finTo_len]) (fun i hi => rfl))
      have HE : Hid (finTo n p m = finN n p) := by rw [finN, HM.out]; exact hide rfl
      go_wp2
      go_ret
      exact ⟨_, n, rfl, Nat.le_refl _, by rw [← HE.out]; exact HI.out, hb⟩

set_option maxHeartbeats 800000 in
theorem refPlan_any (A : Option Addr) (n c : Nat) (L : List J4) (w : World) (hn : L.length = n) (hL : JobsOk L) (hA : JobsA w w.heap.size A L) :
    Calls Try.prog 37 #[.slice A n c] w fun e w' => ∃ X m c', e = .returned (.slice X m c') ∧ (planN false L).length = m ∧ m ≤ c' ∧ PcsA w' w'.heap.size X (planN false L) ∧ Below w.heap.size w w' := by
  have HP := hide (refplanD_any A n c L w hn hL hA)
  clear hn hL hA
  go_enter Try.func37, Try.ntmps37
  go_wp2_with (go_at_call 57; refine (HP.out).mono ?_; rintro e w' ⟨X, m, c', rfl, h1, h2, h3, h4⟩; have H1 := hide h1; have H3 := hide h3; have H4 := hide h4; clear h1 h3 h4)
  go_ret
  exact ⟨X, m, c', rfl, H1.out, h2, H3.out, H4.out⟩
set_option maxHeartbeats 1600000 in
theorem refShort_any (A : Option Addr) (n c : Nat) (L : List J4) (w : World) (hn : L.length = n) (hL : JobsOk L) (hA : JobsA w w.heap.size A L) :
    Calls Try.prog 21 #[.slice A n c] w fun e w' => ∃ X m c', e = .returned (.tuple #[.slice X m c', .int .i64 (endSum L (planN true L))]) ∧ (planN true L).length = m ∧ m ≤ c' ∧ PcsA w' w'.heap.size X (planN true L) ∧ Below w.heap.size w w' := by
  have h8 : n ≤ 8 := by rw [← hn]; exact hL.le
  have hok : PlOk n (planN true L) := hn ▸ planN_ok true hL
  have HD := hide (refplanS_any A n c L w hn hL hA)
  have HE := hide (fun P m pc w2 (hb : Below w.heap.size w w2) hm (hP : PcsA w2 w2.heap.size P (planN true L)) => refends_any A n c P m pc (planN true L) w2 h8 hm (by have := hok.len; omega) hok.job hP)
  have HBD := hide (finN_bd hok)
  have HES : Hid (endSum L (planN true L) = sumT (finN n (planN true L)) n) := by rw [endSum, hn]; exact hide rfl
  have HEL : Hid ((finN n (planN true L)).length = n) := finTo_len n _ _
  clear hA hn hL hok
  obtain ⟨p, hp⟩ : ∃ p, planN true L = p := ⟨_, rfl⟩
  rw [hp] at HD HE HBD HES HEL
  rw [hp]
  clear hp
  obtain ⟨ends, hends⟩ : ∃ ends, finN n p = ends := ⟨_, rfl⟩
  rw [hends] at HE HBD HES HEL
  clear hends
  go_enter Try.func21, Try.ntmps21
  go_wp2_with (first
    | (go_at_call 57; refine (HD.out).mono ?_; rintro e w2 ⟨X, m, c', rfl, h1, h2, h3, h4⟩; have H1 := hide h1; have H3 := hide h3; have H4 := hide h4; clear h1 h3 h4)
    | (go_at_call 58; refine (HE.out _ _ _ _ H4.out H1.out H3.out).mono ?_; rintro e w3 ⟨X2, c2, rfl, hc2, hI, h5⟩; have HI := hide hI; have H6 := hide (H3.out.next h5); have H5 := hide (H4.out.trans (h5.mono H4.out.size)); clear hI h5))
  go_loop [5, 14] (fun v7 v22 => ∃ (k : Nat) (y : Int), k ≤ n ∧ v22 = .int .i64 k ∧ v7 = .int .i64 y ∧ 0 ≤ y ∧ y ≤ 1000 * k ∧ Hid (y = sumT ends k)) (fun _ v => n - (intOf v).toNat)
  case atStart => exact ⟨0, 0, Nat.zero_le _, rfl, rfl, by omega, by omega, hide rfl⟩
  case round =>
    obtain ⟨k, y, hk, rfl, rfl, hy0, hy1, HY⟩ := hrel
    by_cases hlt : k < n
    · obtain ⟨b1, o1, x, rfl, hb1, hc1, hx⟩ := HI.out.at_ (k := k) (by rw [HEL.out]; exact hlt)
      have hkn : (k : Int) < (n : Int) := by omega
      have hxb := HBD.out k
      rw [hx.out] at hxb
      obtain ⟨hxb0, hxb1⟩ := hxb
      have HY2 : Hid (y + x = sumT ends (k + 1)) := by rw [sumT, ← HY.out, hx.out]; exact hide rfl
      clear hx
      go_wp2
      go_round
      case rel => exact ⟨k + 1, _, by omega, by go_num, rfl, by omega, by omega, HY2⟩
      case measure => simp [intOf] <;> omega
    · obtain rfl : n = k := by omega
      have HY2 : Hid (y = endSum L p) := by rw [HES.out]; exact HY
      have e9 := HY2.out
      subst e9
      go_wp2
      go_ret2
      exact ⟨X, m, c', rfl, H1.out, h2, H6.out, H5.out⟩

/-- The greatest delay, from far below. -/
def rdelTo (L : List J4) (e : List Int) : Nat → Int
  | 0 => -1073741824
  | k + 1 => max (rdelTo L e k) (e.getD k 0 - (L.getD k j0).d)
theorem rdelTo_eq {L : List J4} {e : List Int} (hL : JobsOk L) (he : ∀ i, 0 ≤ e.getD i 0 ∧ e.getD i 0 ≤ 1000) : ∀ k, 1 ≤ k → k ≤ L.length → rdelTo L e k = delTo L e k
  | 1, _, hk => by
    have h1 := he 0
    have h2 := hL.at_ 0 hL.pos
    show max (-1073741824) (e.getD 0 0 - (L.getD 0 j0).d) = max (e.getD 0 0 - (L.getD 0 j0).d) (e.getD 0 0 - (L.getD 0 j0).d)
    omega
  | k + 2, _, hk => by
    have h1 := rdelTo_eq hL he (k + 1) (by omega) (by omega)
    rw [rdelTo, delTo, h1]
theorem rdelTo_bd {L : List J4} {e : List Int} (hL : JobsOk L) (he : ∀ i, 0 ≤ e.getD i 0 ∧ e.getD i 0 ≤ 1000) : ∀ k, k ≤ L.length → -1073741824 ≤ rdelTo L e k ∧ rdelTo L e k ≤ 1000
  | 0, _ => by simp [rdelTo]
  | k + 1, hk => by rw [rdelTo]; have := rdelTo_bd hL he k (by omega); have := he k; have := hL.at_ k (by omega); omega
set_option maxHeartbeats 1600000 in
theorem refDelay_any (A : Option Addr) (n c : Nat) (L : List J4) (w : World) (hn : L.length = n) (hL : JobsOk L) (hA : JobsA w w.heap.size A L) :
    Calls Try.prog 38 #[.slice A n c] w fun e w' => e = .returned (.int .i64 (delN L (planN false L))) ∧ Below w.heap.size w w' := by
  have h8 : n ≤ 8 := by rw [← hn]; exact hL.le
  have h1 : 1 ≤ n := by rw [← hn]; exact hL.pos
  have hok : PlOk n (planN false L) := hn ▸ planN_ok false hL
  have HD := hide (refPlan_any A n c L w hn hL hA)
  have HE := hide (fun P m pc w2 (hb : Below w.heap.size w w2) hm (hP : PcsA w2 w2.heap.size P (planN false L)) => refends_any A n c P m pc (planN false L) w2 h8 hm (by have := hok.len; omega) hok.job hP)
  have HBD := hide (finN_bd hok)
  have HES : Hid (delN L (planN false L) = delTo L (finN n (planN false L)) n) := by rw [delN, hn]; exact hide rfl
  have HEL : Hid ((finN n (planN false L)).length = n) := finTo_len n _ _
  have HA := hide hA
  have HN := hide hn
  have HL := hide hL
  clear hA hn hL hok
  obtain ⟨p, hp⟩ : ∃ p, planN false L = p := ⟨_, rfl⟩
  rw [hp] at HD HE HBD HES HEL
  rw [hp]
  clear hp
  obtain ⟨ends, hends⟩ : ∃ ends, finN n p = ends := ⟨_, rfl⟩
  rw [hends] at HE HBD HES HEL
  clear hends
  go_enter Try.func38, Try.ntmps38
  go_wp2_with (first
    | (go_at_call 37; refine (HD.out).mono ?_; rintro e w2 ⟨X, m, c', rfl, h1, h2, h3, h4⟩; have H1 := hide h1; have H3 := hide h3; have H4 := hide h4; clear h1 h3 h4)
    | (go_at_call 58; refine (HE.out _ _ _ _ H4.out H1.out H3.out).mono ?_; rintro e w3 ⟨X2, c2, rfl, hc2, hI, h5⟩; have HI := hide hI; have H5 := hide (H4.out.trans (h5.mono H4.out.size)); clear hI h5))
  go_loop [3, 11] (fun v7 v22 => ∃ (k : Nat) (y : Int), k ≤ n ∧ v22 = .int .i64 k ∧ v7 = .int .i64 y ∧ Hid (y = rdelTo L ends k)) (fun _ v => n - (intOf v).toNat)
  case atStart => exact ⟨0, _, Nat.zero_le _, rfl, rfl, hide rfl⟩
  case round =>
    obtain ⟨k, y, hk, rfl, rfl, HY⟩ := hrel
    by_cases hlt : k < n
    · obtain ⟨b1, o1, x, rfl, hb1, hc1, hx⟩ := HI.out.at_ (k := k) (by rw [HEL.out]; exact hlt)
      obtain ⟨bj2, oj2, t, r, d2, u, rfl, hbj2, hj0, hj1, hj2, hj3, hxj⟩ := (HA.out.next H5.out).at_ (k := k) (by rw [HN.out]; exact hlt)
      have hkn : (k : Int) < (n : Int) := by omega
      have hxb := HBD.out k
      rw [hx.out] at hxb
      obtain ⟨hxb0, hxb1⟩ := hxb
      have hdb := HL.out.at_ k (by rw [HN.out]; exact hlt)
      rw [hxj.out] at hdb
      simp only [] at hdb
      obtain ⟨_, _, _, _, hdb0, hdb1, _, _⟩ := hdb
      have HYN : Hid ((if y < x - d2 then x - d2 else y) = rdelTo L ends (k + 1)) := by
        have e : (if y < x - d2 then x - d2 else y) = max y (x - d2) := by split <;> omega
        rw [e, rdelTo, ← HY.out, hx.out, hxj.out]; exact hide rfl
      clear hx hxj
      go_wp2
      go_round
      case rel => exact ⟨k + 1, _, by omega, by go_num, rfl, HYN⟩
      case measure => simp [intOf] <;> omega
    · obtain rfl : n = k := by omega
      have HY2 : Hid (y = delN L p) := by rw [HES.out, ← rdelTo_eq HL.out HBD.out n h1 (by rw [HN.out]; exact Nat.le_refl _)]; exact HY
      have e9 := HY2.out
      subst e9
      go_wp2
      go_ret
      exact ⟨rfl, H5.out⟩
end Go.Proofs.Ytiadineakhcclaa

/-
  Plain: whole plans.
-/
namespace Go.Proofs.Ytiadineakhcclaa
open Go.RowKit Go.Deep
set_option linter.unusedVariables false
set_option linter.unusedSimpArgs false

/-- Piece k may stand behind the ones ahead of it. -/
structure OkPc (L : List J4) (p : List P3) (k : Nat) : Prop where
  ja : 0 ≤ (p.getD k p0).job
  jb : (p.getD k p0).job < L.length
  rel : (L.getD (p.getD k p0).job.toNat j0).r ≤ (p.getD k p0).fr
  lt : (p.getD k p0).fr < (p.getD k p0).to
  le : (p.getD k p0).to ≤ 1000
  prev : 0 < k → (p.getD (k - 1) p0).to ≤ (p.getD k p0).fr ∧ ((p.getD (k - 1) p0).to = (p.getD k p0).fr → (p.getD (k - 1) p0).job ≠ (p.getD k p0).job)
def doneTo (n : Nat) (p : List P3) : Nat → List Int
  | 0 => List.replicate n 0
  | k + 1 => (doneTo n p k).set (p.getD k p0).job.toNat ((doneTo n p k).getD (p.getD k p0).job.toNat 0 + ((p.getD k p0).to - (p.getD k p0).fr))
structure WholeP (L : List J4) (p : List P3) : Prop where
  pcs : ∀ k, k < p.length → OkPc L p k
  all : ∀ i, i < L.length → (doneTo L.length p p.length).getD i 0 = (L.getD i j0).t
noncomputable def wholeB (L : List J4) (p : List P3) : Bool := @decide (WholeP L p) (Classical.propDecidable _)
theorem wholeB_true {L : List J4} {p : List P3} (h : WholeP L p) : wholeB L p = true := @decide_eq_true _ (Classical.propDecidable _) h
theorem wholeB_false {L : List J4} {p : List P3} (h : ¬ WholeP L p) : wholeB L p = false := @decide_eq_false _ (Classical.propDecidable _) h
theorem wholeB_iff {L : List J4} {p : List P3} : wholeB L p = true ↔ WholeP L p := @decide_eq_true_iff _ (Classical.propDecidable _)
theorem doneTo_len (n : Nat) (p : List P3) : ∀ k, (doneTo n p k).length = n
  | 0 => by simp [doneTo]
  | k + 1 => by rw [doneTo, List.length_set]; exact doneTo_len n p k
/-- The last end so far. -/
def lastTo (p : List P3) (k : Nat) : Int := if k = 0 then 0 else (p.getD (k - 1) p0).to
theorem ok_from {L : List J4} (hL : JobsOk L) {p : List P3} {k : Nat} (h : OkPc L p k) : 0 ≤ (p.getD k p0).fr ∧ lastTo p k ≤ (p.getD k p0).fr := by
  have h1 := h.rel
  have h2 := (hL.at_ (p.getD k p0).job.toNat (by have := h.ja; have := h.jb; omega)).2.2.1
  refine ⟨by omega, ?_⟩
  rw [lastTo]
  split
  · omega
  · exact (h.prev (by omega)).1
theorem doneTo_bd {L : List J4} (hL : JobsOk L) {p : List P3} : ∀ k, (∀ j, j < k → OkPc L p j) → ∀ i, i < L.length → 0 ≤ (doneTo L.length p k).getD i 0 ∧ (doneTo L.length p k).getD i 0 ≤ lastTo p k
  | 0, _, i, hi => by
    rw [doneTo, List.getD_eq_getElem?_getD, List.getElem?_replicate, if_pos hi]
    exact ⟨Int.le_refl _, Int.le_refl _⟩
  | k + 1, h, i, hi => by
    have h1 := doneTo_bd hL k (fun j hj => h j (by omega))
    have hk := h k (by omega)
    have h2 := ok_from hL hk
    have h3 := hk.lt
    have hlast : lastTo p (k + 1) = (p.getD k p0).to := by rw [lastTo, if_neg (by omega)]; rfl
    rw [doneTo, getD_set_i _ _ _ _ _ (by rw [doneTo_len]; have := hk.ja; have := hk.jb; omega), hlast]
    split
    · have := h1 _ (show (p.getD k p0).job.toNat < L.length by have := hk.ja; have := hk.jb; omega)
      omega
    · have := h1 i hi
      omega
theorem lastTo_le {L : List J4} {p : List P3} : ∀ k, (∀ j, j < k → OkPc L p j) → lastTo p k ≤ 1000
  | 0, _ => by rw [lastTo, if_pos rfl]; omega
  | k + 1, h => by rw [lastTo, if_neg (by omega)]; exact (h k (by omega)).le
/-- The sum of what is done is at least the number of pieces. -/
theorem doneTo_sum {L : List J4} {p : List P3} : ∀ k, (∀ j, j < k → OkPc L p j) → (k : Int) ≤ sumT (doneTo L.length p k) L.length
  | 0, _ => by
    have := sumT_nonneg (t := doneTo L.length p 0) (n := L.length) (fun i hi => by rw [doneTo, List.getD_eq_getElem?_getD, List.getElem?_replicate, if_pos hi]; exact Int.le_refl _) L.length (Nat.le_refl _)
    simpa using this
  | k + 1, h => by
    have h1 := doneTo_sum k (fun j hj => h j (by omega))
    have hk := h k (by omega)
    have hj : (p.getD k p0).job.toNat < L.length := by have := hk.ja; have := hk.jb; omega
    rw [doneTo, sumT_set (by rw [doneTo_len]; exact hj), if_pos hj]
    have := hk.lt
    push_cast
    omega
theorem whole_len {L : List J4} (hL : JobsOk L) {p : List P3} (h : WholeP L p) : p.length ≤ 160 := by
  have h1 := doneTo_sum p.length h.pcs
  have h2 := sumT_le (t := doneTo L.length p p.length) (n := L.length) (m := 20) (fun i hi => by rw [h.all i hi]; exact (hL.at_ i hi).2.1) L.length (Nat.le_refl _)
  have := hL.le
  omega
theorem okPc_take {L : List J4} {p : List P3} {m k : Nat} (hk : k < m) (hm : m ≤ p.length) : OkPc L (p.take m) k ↔ OkPc L p k := by
  have e : ∀ j, j < m → (p.take m).getD j p0 = p.getD j p0 := fun j hj => by simp [List.getD_eq_getElem?_getD, List.getElem?_take, hj]
  have e1 := e k hk
  have e2 := e (k - 1) (by omega)
  constructor
  · intro h
    have a := h.ja; have b := h.jb; have c := h.rel; have d := h.lt; have f := h.le; have g := h.prev
    rw [e1] at a b c d f g
    rw [e2] at g
    exact ⟨a, b, c, d, f, g⟩
  · intro h
    refine ⟨?_, ?_, ?_, ?_, ?_, ?_⟩
    · rw [e1]; exact h.ja
    · rw [e1]; exact h.jb
    · rw [e1]; exact h.rel
    · rw [e1]; exact h.lt
    · rw [e1]; exact h.le
    · rw [e1, e2]; exact h.prev
theorem whole_take {L : List J4} (hL : JobsOk L) (p : List P3) : wholeB L (p.take 200) = wholeB L p := by
  by_cases h : p.length ≤ 200
  · rw [List.take_of_length_le h]
  · have h1 : wholeB L p = false := wholeB_false fun hw => by have := whole_len hL hw; omega
    have h2 : wholeB L (p.take 200) = false := wholeB_false fun hw => by have := whole_len hL hw; rw [List.length_take] at this; omega
    rw [h1, h2]
theorem whole_same {L : List J4} (hL : JobsOk L) {p : List P3} (h : wholeB L p = true) : p.take 200 = p := List.take_of_length_le (by have := whole_len hL (wholeB_iff.1 h); omega)
theorem whole_to {L : List J4} (hL : JobsOk L) {p : List P3} (h : WholeP L p) : p.length ≤ 160 ∧ ∀ q, q < p.length → 0 ≤ (p.getD q p0).job ∧ (p.getD q p0).job < L.length ∧ 0 ≤ (p.getD q p0).to ∧ (p.getD q p0).to ≤ 1000 :=
  ⟨whole_len hL h, fun q hq => by
    have h1 := h.pcs q hq
    have h2 := ok_from hL h1
    exact ⟨h1.ja, h1.jb, by have := h1.lt; omega, h1.le⟩⟩
end Go.Proofs.Ytiadineakhcclaa

/-
  Plain: who is late in the plan by Due shows an overloaded stretch; what a whole plan can do in a stretch.
-/
namespace Go.Proofs.Ytiadineakhcclaa
set_option linter.unusedVariables false
set_option linter.unusedSimpArgs false

/-! Sums over some of the jobs. -/
def sumS (S : Nat → Bool) (f : Nat → Int) : Nat → Int
  | 0 => 0
  | k + 1 => sumS S f k + if S k then f k else 0
theorem sumS_le {S : Nat → Bool} {f g : Nat → Int} {n : Nat} (h : ∀ i, i < n → S i = true → f i ≤ g i) : ∀ k, k ≤ n → sumS S f k ≤ sumS S g k
  | 0, _ => Int.le_refl _
  | k + 1, hk => by
    rw [sumS, sumS]
    have h1 := sumS_le h k (by omega)
    cases hS : S k with
    | false => simp; omega
    | true => have := h k (by omega) hS; simp; omega
theorem sumS_congr {S T : Nat → Bool} {f g : Nat → Int} {n : Nat} (hS : ∀ i, i < n → S i = T i) (h : ∀ i, i < n → S i = true → f i = g i) : ∀ k, k ≤ n → sumS S f k = sumS T g k
  | 0, _ => rfl
  | k + 1, hk => by
    rw [sumS, sumS, sumS_congr hS h k (by omega), ← hS k (by omega)]
    cases hk2 : S k with
    | false => rfl
    | true => rw [h k (by omega) hk2]
theorem sumS_nonneg {S : Nat → Bool} {f : Nat → Int} {n : Nat} (h : ∀ i, i < n → S i = true → 0 ≤ f i) : ∀ k, k ≤ n → 0 ≤ sumS S f k
  | 0, _ => Int.le_refl _
  | k + 1, hk => by
    rw [sumS]
    have h1 := sumS_nonneg h k (by omega)
    cases hS : S k with
    | false => simp; omega
    | true => have := h k (by omega) hS; simp; omega
theorem sumS_ge {S : Nat → Bool} {f : Nat → Int} {n : Nat} (h : ∀ i, i < n → S i = true → 0 ≤ f i) : ∀ k, k ≤ n → ∀ i, i < k → S i = true → f i ≤ sumS S f k
  | 0, _, i, hi, _ => absurd hi (by omega)
  | k + 1, hk, i, hi, hS => by
    rw [sumS]
    have h0 := sumS_nonneg h k (by omega)
    by_cases e : i = k
    · subst e; rw [hS]; simp; omega
    · have h1 := sumS_ge h k (by omega) i (by omega) hS
      cases hS2 : S k with
      | false => simp; omega
      | true => have := h k (by omega) hS2; simp; omega
/-- A function that differs at one place. -/
theorem sumS_one {S : Nat → Bool} {f g : Nat → Int} {i : Nat} (h : ∀ j, j ≠ i → f j = g j) : ∀ k, sumS S f k = sumS S g k + if i < k ∧ S i = true then f i - g i else 0
  | 0 => by simp [sumS]
  | k + 1 => by
    rw [sumS, sumS, sumS_one h k]
    by_cases e : k = i
    · subst e
      rw [if_neg (by omega)]
      cases hS : S k with
      | false => simp
      | true => simp; omega
    · rw [h k e]
      have e2 : (i < k + 1 ∧ S i = true) = (i < k ∧ S i = true) := by
        rw [eq_iff_iff]
        exact ⟨fun h3 => ⟨by omega, h3.2⟩, fun h3 => ⟨by omega, h3.2⟩⟩
      simp only [e2]
      omega

/-! The plan, unit by unit. -/
def leftAt (sh : Bool) (L : List J4) (k i : Nat) : Int := (runP sh L k).1.getD i 0
def schedAt (sh : Bool) (L : List J4) (k : Nat) : Int := pk sh L (runP sh L k).1 k
theorem left_zero (sh : Bool) (L : List J4) (i : Nat) : leftAt sh L 0 i = (L.getD i j0).t := by rw [leftAt, runP]; exact timesOf_getD L i
theorem left_idle {sh : Bool} {L : List J4} {k : Nat} (h : schedAt sh L k = -1) (i : Nat) : leftAt sh L (k + 1) i = leftAt sh L k i := by
  have h' : pk sh L (runP sh L k).1 k = -1 := h
  rw [leftAt, runP, stepP, h', if_pos (by omega)]; rfl
theorem left_work {sh : Bool} {L : List J4} (hL : JobsOk L) {k j : Nat} (h : schedAt sh L k = (j : Int)) (hj : j < L.length) (i : Nat) : leftAt sh L (k + 1) i = if i = j then leftAt sh L k j - 1 else leftAt sh L k i := by
  have h' : pk sh L (runP sh L k).1 k = (j : Int) := h
  rw [leftAt, runP, stepP, h', if_neg (by omega), Int.toNat_natCast]
  show (List.set _ _ _).getD i 0 = _
  rw [getD_set_i _ _ _ _ _ (by rw [(runP_ok sh hL k).len]; exact hj)]
  rfl
theorem sched_cases (sh : Bool) (L : List J4) (k : Nat) : (schedAt sh L k = -1 ∧ ∀ i, i < L.length → ¬ ((L.getD i j0).r ≤ k ∧ 0 < leftAt sh L k i)) ∨
    ∃ j, j < L.length ∧ schedAt sh L k = (j : Int) ∧ (L.getD j j0).r ≤ k ∧ 0 < leftAt sh L k j ∧ ∀ i, i < L.length → (L.getD i j0).r ≤ k → 0 < leftAt sh L k i → keyP sh L (runP sh L k).1 j ≤ keyP sh L (runP sh L k).1 i := by
  rcases pk_spec sh L (runP sh L k).1 k with ⟨e, h⟩ | ⟨j, hj, e, hav, h⟩
  · exact .inl ⟨e, fun i hi h2 => h i hi h2⟩
  · exact .inr ⟨j, hj, e, hav.1, hav.2, fun i hi h1 h2 => (h i hi ⟨h1, h2⟩).1⟩
theorem left_le_succ {sh : Bool} {L : List J4} (hL : JobsOk L) (k i : Nat) : leftAt sh L (k + 1) i ≤ leftAt sh L k i := by
  rcases sched_cases sh L k with ⟨e, _⟩ | ⟨j, hj, e, _⟩
  · rw [left_idle e]; exact Int.le_refl _
  · rw [left_work hL e hj]; split
    · rename_i h; subst h; omega
    · exact Int.le_refl _
theorem left_mono {sh : Bool} {L : List J4} (hL : JobsOk L) {k m : Nat} (h : k ≤ m) (i : Nat) : leftAt sh L m i ≤ leftAt sh L k i := by
  obtain ⟨d, rfl⟩ : ∃ d, m = k + d := ⟨m - k, by omega⟩
  induction d with
  | zero => exact Int.le_refl _
  | succ d ih => have h1 := ih (by omega); have h2 := left_le_succ (sh := sh) hL (k + d) i; show leftAt sh L (k + d + 1) i ≤ _; omega
theorem left_bd {sh : Bool} {L : List J4} (hL : JobsOk L) (k i : Nat) (hi : i < L.length) : 0 ≤ leftAt sh L k i ∧ leftAt sh L k i ≤ (L.getD i j0).t := (runP_ok sh hL k).bd i hi
theorem left_end {sh : Bool} {L : List J4} (hL : JobsOk L) {k : Nat} (hk : 300 ≤ k) (i : Nat) (hi : i < L.length) : leftAt sh L k i = 0 := by
  have h1 := runP_300 (sh := sh) hL hk i (by rw [(runP_ok sh hL k).len]; exact hi)
  have h2 := left_bd (sh := sh) hL k i hi
  have h3 : leftAt sh L k i ≤ 0 := h1
  omega

/-! The ends. -/
theorem finTo_app (n : Nat) (p q : List P3) : ∀ k, k ≤ p.length → finTo n (p ++ q) k = finTo n p k
  | 0, _ => rfl
  | k + 1, hk => by
    have e : (p ++ q).getD k p0 = p.getD k p0 := by simp [List.getD_eq_getElem?_getD, List.getElem?_append_left (show k < p.length by omega)]
    rw [finTo, finTo, finTo_app n p q k (by omega), e]
theorem finTo_set (n : Nat) (p : List P3) (x : P3) (i : Nat) : ∀ k, k ≤ i → finTo n (p.set i x) k = finTo n p k
  | 0, _ => rfl
  | k + 1, hk => by
    have e : (p.set i x).getD k p0 = p.getD k p0 := by
      rw [List.getD_eq_getElem?_getD, List.getElem?_set, if_neg (by omega), List.getD_eq_getElem?_getD]
    rw [finTo, finTo, finTo_set n p x i k (by omega), e]
theorem fin_addP (n : Nat) (out : List P3) (j : Nat) (a : Int) : finN n (addP out (j : Int) a) = (finN n out).set j (a + 1) := by
  rw [addP]
  split
  · rename_i hc
    obtain ⟨m, hm⟩ : ∃ m, out.length = m + 1 := ⟨out.length - 1, by omega⟩
    rw [hm] at hc ⊢
    have hc2 := hc.2
    rw [show m + 1 - 1 = m by omega] at hc2 ⊢
    rw [finN, List.length_set, hm, finTo, finTo_set _ _ _ _ _ (Nat.le_refl _), getD_set_i _ _ _ _ _ (by omega), if_pos rfl, finN, hm, finTo]
    show (finTo n out m).set (out.getD m p0).job.toNat (a + 1) = _
    rw [hc2.1, Int.toNat_natCast, List.set_set]
  · rw [finN, List.length_append, List.length_singleton, finTo, finTo_app _ _ _ _ (Nat.le_refl _)]
    have e : (out ++ [(⟨(j : Int), a, a + 1⟩ : P3)]).getD out.length p0 = ⟨(j : Int), a, a + 1⟩ := by simp [List.getD_eq_getElem?_getD]
    rw [e]
    show (finTo n out out.length).set ((j : Int).toNat) (a + 1) = _
    rw [Int.toNat_natCast]; rfl
def endAt (sh : Bool) (L : List J4) (k i : Nat) : Int := (finN L.length (runP sh L k).2).getD i 0
theorem end_idle {sh : Bool} {L : List J4} {k : Nat} (h : schedAt sh L k = -1) (i : Nat) : endAt sh L (k + 1) i = endAt sh L k i := by
  have h' : pk sh L (runP sh L k).1 k = -1 := h
  rw [endAt, runP, stepP, h', if_pos (by omega)]; rfl
theorem end_work {sh : Bool} {L : List J4} (hL : JobsOk L) {k j : Nat} (h : schedAt sh L k = (j : Int)) (hj : j < L.length) (i : Nat) : endAt sh L (k + 1) i = if i = j then (k : Int) + 1 else endAt sh L k i := by
  have h' : pk sh L (runP sh L k).1 k = (j : Int) := h
  rw [endAt, runP, stepP, h', if_neg (by omega)]
  show (finN L.length (addP (runP sh L k).2 (j : Int) k)).getD i 0 = _
  rw [fin_addP, getD_set_i _ _ _ _ _ (by rw [finN, finTo_len]; exact hj)]
  rfl
/-- A job's end is behind its last unit. -/
theorem end_last {sh : Bool} {L : List J4} (hL : JobsOk L) (i : Nat) (hi : i < L.length) : ∀ k, (leftAt sh L k i = (L.getD i j0).t ∧ endAt sh L k i = 0) ∨
    ∃ T, T < k ∧ schedAt sh L T = (i : Int) ∧ endAt sh L k i = (T : Int) + 1 ∧ leftAt sh L k i = leftAt sh L (T + 1) i
  | 0 => .inl ⟨left_zero sh L i, by
      rw [endAt, runP, finN]; show (finTo L.length [] 0).getD i 0 = 0
      rw [finTo, List.getD_eq_getElem?_getD, List.getElem?_replicate, if_pos hi]; rfl⟩
  | k + 1 => by
    rcases sched_cases sh L k with ⟨e, _⟩ | ⟨j, hj, e, _⟩
    · rcases end_last hL i hi k with ⟨h1, h2⟩ | ⟨T, hT, h1, h2, h3⟩
      · exact .inl ⟨by rw [left_idle e]; exact h1, by rw [end_idle e]; exact h2⟩
      · exact .inr ⟨T, by omega, h1, by rw [end_idle e]; exact h2, by rw [left_idle e]; exact h3⟩
    · by_cases hij : i = j
      · subst hij
        exact .inr ⟨k, by omega, e, by rw [end_work hL e hj, if_pos rfl], rfl⟩
      · rcases end_last hL i hi k with ⟨h1, h2⟩ | ⟨T, hT, h1, h2, h3⟩
        · exact .inl ⟨by rw [left_work hL e hj, if_neg hij]; exact h1, by rw [end_work hL e hj, if_neg hij]; exact h2⟩
        · exact .inr ⟨T, by omega, h1, by rw [end_work hL e hj, if_neg hij]; exact h2, by rw [left_work hL e hj, if_neg hij]; exact h3⟩
theorem end_unit {sh : Bool} {L : List J4} (hL : JobsOk L) (i : Nat) (hi : i < L.length) : ∃ T, T < 300 ∧ schedAt sh L T = (i : Int) ∧ (finN L.length (planN sh L)).getD i 0 = (T : Int) + 1 := by
  rcases end_last (sh := sh) hL i hi 300 with ⟨h1, _⟩ | ⟨T, hT, h1, h2, _⟩
  · have := left_end (sh := sh) hL (Nat.le_refl _) i hi
    have := (hL.at_ i hi).1
    omega
  · exact ⟨T, hT, h1, h2⟩

/-! Going back from a job's end. -/
def worthy (L : List J4) (D : Int) (k : Nat) : Prop := ∃ j : Nat, j < L.length ∧ schedAt false L k = (j : Int) ∧ (L.getD j j0).d ≤ D
theorem go_back (L : List J4) (D : Int) (T : Nat) (hT : worthy L D T) : ∃ a, a ≤ T ∧ (∀ v, a ≤ v → v ≤ T → worthy L D v) ∧ (a = 0 ∨ ¬ worthy L D (a - 1)) := by
  induction T with
  | zero =>
    refine ⟨0, Nat.le_refl _, fun v h1 h2 => ?_, .inl rfl⟩
    obtain rfl : v = 0 := by omega
    exact hT
  | succ T ih =>
    by_cases h : worthy L D T
    · obtain ⟨a, h1, h2, h3⟩ := ih h
      refine ⟨a, by omega, fun v hv1 hv2 => ?_, h3⟩
      by_cases e : v = T + 1
      · subst e; exact hT
      · exact h2 v hv1 (by omega)
    · refine ⟨T + 1, Nat.le_refl _, fun v h1 h2 => ?_, .inr h⟩
      obtain rfl : v = T + 1 := by omega
      exact hT
/-- The jobs of a stretch. -/
def inStretch (L : List J4) (a b : Int) (i : Nat) : Bool := decide (a ≤ (L.getD i j0).r ∧ (L.getD i j0).d ≤ b)
def loadN (L : List J4) (a b : Int) : Int := sumS (inStretch L a b) (fun i => (L.getD i j0).t) L.length
theorem edf {L : List J4} (hL : JobsOk L) (x : Nat) (hx : x < L.length) : ∃ a : Nat, (a : Int) ≤ (L.getD x j0).r ∧ (finN L.length (planN false L)).getD x 0 - a ≤ loadN L a (L.getD x j0).d := by
  obtain ⟨T, hT, hs, he⟩ := end_unit (sh := false) hL x hx
  obtain ⟨a, haT, hw, hb⟩ := go_back L (L.getD x j0).d T ⟨x, hx, hs, Int.le_refl _⟩
  have hrel : ∀ v, a ≤ v → v ≤ T → ∀ j : Nat, j < L.length → schedAt false L v = (j : Int) → (L.getD j j0).d ≤ (L.getD x j0).d → (a : Int) ≤ (L.getD j j0).r := fun v h1 h2 j hj hsv hd => by
    rcases hb with hb | hb
    · subst hb; exact (hL.at_ j hj).2.2.1
    · refine Classical.byContradiction fun hr => hb ?_
      have ha1 : 1 ≤ a := by have := (hL.at_ j hj).2.2.1; omega
      have hl : 0 < leftAt false L (a - 1) j := by
        rcases sched_cases false L v with ⟨e, _⟩ | ⟨j', hj', e, _, h3, _⟩
        · omega
        · obtain rfl : j' = j := by omega
          have := left_mono (sh := false) hL (show a - 1 ≤ v by omega) j'
          omega
      have hra : (L.getD j j0).r ≤ ((a - 1 : Nat) : Int) := by omega
      rcases sched_cases false L (a - 1) with ⟨e, hno⟩ | ⟨i, hi, e, _, _, hmin⟩
      · exact absurd ⟨hra, hl⟩ (hno j hj)
      · have h4 := hmin j hj hra hl
        have h5 : (L.getD i j0).d ≤ (L.getD j j0).d := h4
        exact ⟨i, hi, e, by omega⟩
  refine ⟨a, hrel T haT (Nat.le_refl _) x hx hs (Int.le_refl _), ?_⟩
  -- the units of the stretch
  have hcount : ∀ w, a ≤ w → w ≤ T + 1 → (w : Int) - a ≤ sumS (inStretch L a (L.getD x j0).d) (fun i => leftAt false L a i - leftAt false L w i) L.length := by
    intro w h1
    induction w with
    | zero =>
      intro _
      have := sumS_nonneg (S := inStretch L a (L.getD x j0).d) (f := fun i => leftAt false L a i - leftAt false L 0 i) (n := L.length) (fun i hi _ => by
        have e : a = 0 := by omega
        rw [e]; simp) L.length (Nat.le_refl _)
      omega
    | succ w ih =>
      intro h2
      by_cases e : a = w + 1
      · subst e
        have := sumS_nonneg (S := inStretch L ((w + 1 : Nat) : Int) (L.getD x j0).d) (f := fun i => leftAt false L (w + 1) i - leftAt false L (w + 1) i) (n := L.length) (fun i hi _ => by simp) L.length (Nat.le_refl _)
        omega
      · have h3 := ih (by omega) (by omega)
        obtain ⟨j, hj, hsj, hdj⟩ := hw w (by omega) (by omega)
        have hrj := hrel w (by omega) (by omega) j hj hsj hdj
        have hSj : inStretch L a (L.getD x j0).d j = true := decide_eq_true ⟨hrj, hdj⟩
        have h4 := sumS_one (S := inStretch L a (L.getD x j0).d) (f := fun i => leftAt false L a i - leftAt false L (w + 1) i) (g := fun i => leftAt false L a i - leftAt false L w i) (i := j) (fun i hi => by
          show _ - leftAt false L (w + 1) i = _
          rw [left_work hL hsj hj, if_neg hi]) L.length
        rw [if_pos ⟨hj, hSj⟩] at h4
        have h5 : (leftAt false L a j - leftAt false L (w + 1) j) - (leftAt false L a j - leftAt false L w j) = 1 := by rw [left_work hL hsj hj, if_pos rfl]; omega
        rw [h4, h5]
        push_cast
        omega
  have h1 := hcount (T + 1) (by omega) (Nat.le_refl _)
  have h2 := sumS_le (S := inStretch L a (L.getD x j0).d) (f := fun i => leftAt false L a i - leftAt false L (T + 1) i) (g := fun i => (L.getD i j0).t) (n := L.length) (fun i hi _ => by
    have h3 := left_bd (sh := false) hL a i hi
    have h4 := left_bd (sh := false) hL (T + 1) i hi
    omega) L.length (Nat.le_refl _)
  rw [he, loadN]
  push_cast at h1
  omega

end Go.Proofs.Ytiadineakhcclaa

/-
  Plain: the first overloaded stretch.
-/
namespace Go.Proofs.Ytiadineakhcclaa
open Go.RowKit Go.Deep
set_option linter.unusedVariables false
set_option linter.unusedSimpArgs false

/-- The first overloaded stretch. -/
structure OvP (L : List J4) (a b : Int) : Prop where
  a0 : 0 ≤ a
  ab : a ≤ b
  b9 : b ≤ 400
  ld : b - a < loadN L a b
  first : ∀ a' b', 0 ≤ a' → a' ≤ b' → b' ≤ 400 → (a' < a ∨ a' = a ∧ b' < b) → ¬ b' - a' < loadN L a' b'
theorem OvP.uniq {L : List J4} {a b a' b' : Int} (h : OvP L a b) (h' : OvP L a' b') : a = a' ∧ b = b' := by
  have h1 := h.first a' b' h'.a0 h'.ab h'.b9
  have h2 := h'.first a b h.a0 h.ab h.b9
  by_cases e : a = a'
  · subst e
    refine ⟨rfl, ?_⟩
    rcases Int.lt_trichotomy b b' with h3 | h3 | h3
    · exact absurd h.ld (h2 (.inr ⟨rfl, h3⟩))
    · exact h3
    · exact absurd h'.ld (h1 (.inr ⟨rfl, h3⟩))
  · rcases Int.lt_trichotomy a a' with h3 | h3 | h3
    · exact absurd h.ld (h2 (.inl h3))
    · exact absurd h3 e
    · exact absurd h'.ld (h1 (.inl h3))
theorem delTo_ge {L : List J4} {e : List Int} : ∀ k, ∀ i, i < k → e.getD i 0 - (L.getD i j0).d ≤ delTo L e k
  | 0, i, hi => absurd hi (by omega)
  | k + 1, i, hi => by
    rw [delTo]
    by_cases e2 : i = k
    · subst e2; omega
    · have := delTo_ge (L := L) (e := e) k i (by omega); omega
theorem delTo_at {L : List J4} {e : List Int} : ∀ k, ∃ i, (i < k ∨ i = 0) ∧ delTo L e k = e.getD i 0 - (L.getD i j0).d
  | 0 => ⟨0, .inr rfl, rfl⟩
  | k + 1 => by
    obtain ⟨i, hi, h⟩ := delTo_at (L := L) (e := e) k
    rw [delTo]
    by_cases h2 : delTo L e k ≤ e.getD k 0 - (L.getD k j0).d
    · exact ⟨k, .inl (by omega), by omega⟩
    · exact ⟨i, by omega, by omega⟩
theorem delN_at {L : List J4} (hL : JobsOk L) (p : List P3) : ∃ i, i < L.length ∧ delN L p = (finN L.length p).getD i 0 - (L.getD i j0).d := by
  obtain ⟨i, hi, h⟩ := delTo_at (L := L) (e := finN L.length p) L.length
  have := hL.pos
  exact ⟨i, by omega, h⟩
/-- Some stretch is overloaded if somebody is late. -/
theorem over_some {L : List J4} (hL : JobsOk L) (h : 0 < delN L (planN false L)) : ∃ a b : Nat, a ≤ b ∧ a ≤ 100 ∧ b ≤ 200 ∧ (b : Int) - a < loadN L a b := by
  obtain ⟨x, hx, hd⟩ := delN_at hL (planN false L)
  obtain ⟨a, ha, hb⟩ := edf hL x hx
  have hxb := hL.at_ x hx
  by_cases hab : (a : Int) ≤ (L.getD x j0).d
  · refine ⟨a, (L.getD x j0).d.toNat, by omega, by omega, by omega, ?_⟩
    rw [show (((L.getD x j0).d.toNat : Nat) : Int) = (L.getD x j0).d by omega]
    omega
  · refine ⟨a, a, Nat.le_refl _, by omega, by omega, ?_⟩
    have h1 := sumS_ge (S := inStretch L a a) (f := fun i => (L.getD i j0).t) (n := L.length) (fun i hi _ => by have := hL.at_ i hi; omega) L.length (Nat.le_refl _) x hx (decide_eq_true ⟨ha, by omega⟩)
    have h2 : (L.getD x j0).t ≤ loadN L a a := h1
    omega
theorem load_none {L : List J4} (hL : JobsOk L) {a b : Int} (h : 100 < a) : loadN L a b = 0 := by
  have h1 := sumS_congr (S := inStretch L a b) (T := fun _ => false) (f := fun i => (L.getD i j0).t) (g := fun _ => 0) (n := L.length) (fun i hi => decide_eq_false (fun h2 => by have := hL.at_ i hi; omega)) (fun i hi hS => by
    have h2 : a ≤ (L.getD i j0).r ∧ (L.getD i j0).d ≤ b := of_decide_eq_true hS
    have := hL.at_ i hi
    omega) L.length (Nat.le_refl _)
  rw [loadN, h1]
  generalize L.length = n
  induction n with
  | zero => rfl
  | succ n ih => rw [sumS, ih]; rfl
def loadTo (L : List J4) (a b : Int) (k : Nat) : Int := sumS (inStretch L a b) (fun i => (L.getD i j0).t) k
theorem loadTo_bd {L : List J4} (hL : JobsOk L) (a b : Int) : ∀ k, k ≤ L.length → 0 ≤ loadTo L a b k ∧ loadTo L a b k ≤ 20 * k
  | 0, _ => by simp [loadTo, sumS]
  | k + 1, hk => by
    have h1 := loadTo_bd hL a b k (by omega)
    have h2 := hL.at_ k (by omega)
    unfold loadTo at h1 ⊢
    rw [sumS]
    split
    · omega
    · omega
theorem loadTo_yes {L : List J4} {a b : Int} {k : Nat} {t r d u : Int} (h : L.getD k j0 = ⟨t, r, d, u⟩) (h1 : a ≤ r) (h2 : d ≤ b) : loadTo L a b (k + 1) = loadTo L a b k + t := by
  unfold loadTo
  rw [sumS, if_pos (show inStretch L a b k = true from decide_eq_true ⟨by rw [h]; exact h1, by rw [h]; exact h2⟩), h]
theorem loadTo_no {L : List J4} {a b : Int} {k : Nat} {t r d u : Int} (h : L.getD k j0 = ⟨t, r, d, u⟩) (h1 : ¬ (a ≤ r ∧ d ≤ b)) : loadTo L a b (k + 1) = loadTo L a b k := by
  unfold loadTo
  rw [sumS, if_neg (show ¬ inStretch L a b k = true from fun h2 => h1 (by have := of_decide_eq_true h2; rw [h] at this; exact this))]; omega
/-- An array of two ints, and an error. -/
def OvRes (L : List J4) (w : World) (e : Ending) (w' : World) : Prop := ∃ a b, OvP L a b ∧ e = .returned (.tuple #[.agg #[.int .i64 a, .int .i64 b], .int .i64 0]) ∧ Below w.heap.size w w'
end Go.Proofs.Ytiadineakhcclaa

/-
  Plain: the plan is whole, and no time passes idly; what a whole plan can do.
-/
namespace Go.Proofs.Ytiadineakhcclaa
set_option linter.unusedVariables false
set_option linter.unusedSimpArgs false

structure PInv (L : List J4) (k : Nat) (t : List Int) (out : List P3) : Prop where
  ok : ∀ q, q < out.length → OkPc L out q
  idle : ∀ q, q < out.length → lastTo out q < (out.getD q p0).fr → ∀ j, j < L.length → (doneTo L.length out q).getD j 0 < (L.getD j j0).t → (out.getD q p0).fr ≤ (L.getD j j0).r
  gap : lastTo out out.length < k → ∀ j, j < L.length → 0 < t.getD j 0 → (k : Int) ≤ (L.getD j j0).r
  last : lastTo out out.length ≤ k
  left : ∀ j, j < L.length → t.getD j 0 = (L.getD j j0).t - (doneTo L.length out out.length).getD j 0
theorem doneTo_app (n : Nat) (p q : List P3) : ∀ k, k ≤ p.length → doneTo n (p ++ q) k = doneTo n p k
  | 0, _ => rfl
  | k + 1, hk => by
    have e : (p ++ q).getD k p0 = p.getD k p0 := by simp [List.getD_eq_getElem?_getD, List.getElem?_append_left (show k < p.length by omega)]
    rw [doneTo, doneTo, doneTo_app n p q k (by omega), e]
theorem doneTo_set (n : Nat) (p : List P3) (x : P3) (i : Nat) : ∀ k, k ≤ i → doneTo n (p.set i x) k = doneTo n p k
  | 0, _ => rfl
  | k + 1, hk => by
    have e : (p.set i x).getD k p0 = p.getD k p0 := by
      rw [List.getD_eq_getElem?_getD, List.getElem?_set, if_neg (by omega), List.getD_eq_getElem?_getD]
    rw [doneTo, doneTo, doneTo_set n p x i k (by omega), e]
theorem lastTo_succ (p : List P3) (k : Nat) : lastTo p (k + 1) = (p.getD k p0).to := by rw [lastTo, if_neg (by omega)]; rfl
theorem okPc_congr {L : List J4} {p p' : List P3} {k : Nat} (h : OkPc L p k) (e1 : p'.getD k p0 = p.getD k p0) (e2 : 0 < k → p'.getD (k - 1) p0 = p.getD (k - 1) p0) : OkPc L p' k := by
  refine ⟨?_, ?_, ?_, ?_, ?_, fun hk => ?_⟩
  · rw [e1]; exact h.ja
  · rw [e1]; exact h.jb
  · rw [e1]; exact h.rel
  · rw [e1]; exact h.lt
  · rw [e1]; exact h.le
  · rw [e1, e2 hk]; exact h.prev hk
theorem PInv.step {sh : Bool} {L : List J4} (hL : JobsOk L) {k : Nat} (hk : k < 900) {t : List Int} {out : List P3} (hlen : t.length = L.length) (h : PInv L k t out) :
    PInv L (k + 1) (stepP sh L k (t, out)).1 (stepP sh L k (t, out)).2 := by
  rw [stepP]
  rcases pk_spec sh L t k with ⟨e, hno⟩ | ⟨j, hj, e, hav, _⟩
  · simp only []
    rw [e, if_pos (by omega)]
    refine ⟨h.ok, h.idle, fun _ i hi ht => ?_, by have := h.last; push_cast; omega, h.left⟩
    have h1 := hno i hi
    refine Classical.byContradiction fun h2 => h1 ⟨?_, ht⟩
    push_cast at h2
    omega
  · simp only []
    rw [e, if_neg (by omega), Int.toNat_natCast]
    simp only []
    have hlast := h.last
    rw [addP]
    split
    · rename_i hc
      obtain ⟨m, hm⟩ : ∃ m, out.length = m + 1 := ⟨out.length - 1, by omega⟩
      rw [hm, show m + 1 - 1 = m by omega] at hc ⊢
      obtain ⟨_, hc1, hc2⟩ := hc
      obtain ⟨x, hx⟩ : ∃ x : P3, x = ⟨(out.getD m p0).job, (out.getD m p0).fr, (k : Int) + 1⟩ := ⟨_, rfl⟩
      rw [← hx]
      have hg : ∀ q, q ≠ m → (out.set m x).getD q p0 = out.getD q p0 := fun q hq => by rw [getD_set_i _ _ _ _ _ (by omega), if_neg hq]
      have hgm : (out.set m x).getD m p0 = x := by rw [getD_set_i _ _ _ _ _ (by omega), if_pos rfl]
      have hokm := h.ok m (by omega)
      have hlt : ∀ q, q ≤ m → lastTo (out.set m x) q = lastTo out q := fun q hq => by
        rw [lastTo, lastTo]
        split
        · rfl
        · rw [hg _ (by omega)]
      have hlast2 : lastTo (out.set m x) (out.set m x).length = (k : Int) + 1 := by rw [List.length_set, hm, lastTo_succ, hgm, hx]
      refine ⟨fun q hq => ?_, fun q hq => ?_, fun hgap => ?_, ?_, fun i hi => ?_⟩
      · rw [List.length_set, hm] at hq
        by_cases e2 : q = m
        · subst e2
          refine ⟨?_, ?_, ?_, ?_, ?_, fun hq0 => ?_⟩
          · rw [hgm, hx]; exact hokm.ja
          · rw [hgm, hx]; exact hokm.jb
          · rw [hgm, hx]; exact hokm.rel
          · rw [hgm, hx]; have := hokm.lt; simp only []; omega
          · rw [hgm, hx]; simp only []; omega
          · rw [hg _ (by omega), hgm, hx]; exact hokm.prev hq0
        · exact okPc_congr (h.ok q (by omega)) (hg q e2) (fun hq0 => hg _ (by omega))
      · rw [List.length_set, hm] at hq
        rw [hlt q (by omega), doneTo_set _ _ _ _ _ (by omega)]
        by_cases e2 : q = m
        · subst e2; rw [hgm, hx]; exact h.idle q (by omega)
        · rw [hg q e2]; exact h.idle q (by omega)
      · rw [hlast2] at hgap; push_cast at hgap; omega
      · rw [hlast2]; push_cast; omega
      · have h1 := h.left i hi
        rw [hm] at h1
        rw [List.length_set, hm, doneTo, hgm, doneTo_set _ _ _ _ _ (Nat.le_refl _), hx]
        simp only []
        rw [doneTo, hc1, Int.toNat_natCast, getD_set_i _ _ _ _ _ (by rw [doneTo_len]; exact hj), hc2] at h1
        rw [hc1, Int.toNat_natCast, getD_set_i _ _ _ _ _ (by rw [hlen]; exact hj), getD_set_i _ _ _ _ _ (by rw [doneTo_len]; exact hj)]
        by_cases e2 : i = j
        · subst e2
          rw [if_pos rfl] at h1
          rw [if_pos rfl, if_pos rfl]
          omega
        · rw [if_neg e2] at h1
          rw [if_neg e2, if_neg e2]
          exact h1
    · rename_i hc
      obtain ⟨x, hx⟩ : ∃ x : P3, x = ⟨(j : Int), (k : Int), (k : Int) + 1⟩ := ⟨_, rfl⟩
      rw [← hx]
      have hg : ∀ q, q < out.length → (out ++ [x]).getD q p0 = out.getD q p0 := fun q hq => by simp [List.getD_eq_getElem?_getD, List.getElem?_append_left hq]
      have hgm : (out ++ [x]).getD out.length p0 = x := by simp [List.getD_eq_getElem?_getD]
      have hlt : ∀ q, q ≤ out.length → lastTo (out ++ [x]) q = lastTo out q := fun q hq => by
        rw [lastTo, lastTo]
        split
        · rfl
        · rw [hg _ (by omega)]
      have hl9 : (out ++ [x]).length = out.length + 1 := by simp
      have hlast2 : lastTo (out ++ [x]) (out ++ [x]).length = (k : Int) + 1 := by rw [hl9, lastTo_succ, hgm, hx]
      have hdn : ∀ i, i < L.length → (doneTo L.length (out ++ [x]) (out ++ [x]).length).getD i 0 = (doneTo L.length out out.length).getD i 0 + if i = j then 1 else 0 := fun i hi => by
        rw [hl9, doneTo, hgm, doneTo_app _ _ _ _ (Nat.le_refl _), hx]
        simp only []
        rw [Int.toNat_natCast, getD_set_i _ _ _ _ _ (by rw [doneTo_len]; exact hj)]
        by_cases e2 : i = j
        · subst e2; rw [if_pos rfl, if_pos rfl]; omega
        · rw [if_neg e2, if_neg e2]; omega
      refine ⟨fun q hq => ?_, fun q hq => ?_, fun hgap => ?_, ?_, fun i hi => ?_⟩
      · rw [hl9] at hq
        by_cases e2 : q = out.length
        · subst e2
          refine ⟨?_, ?_, ?_, ?_, ?_, fun hq0 => ?_⟩
          · rw [hgm, hx]; exact Int.natCast_nonneg j
          · rw [hgm, hx]; simp only []; omega
          · rw [hgm, hx]; simp only []; rw [Int.toNat_natCast]; exact hav.1
          · rw [hgm, hx]; simp only []; omega
          · rw [hgm, hx]; simp only []; omega
          · rw [hg _ (by omega), hgm, hx]
            simp only []
            have h9 : lastTo out out.length = (out.getD (out.length - 1) p0).to := by rw [lastTo, if_neg (by omega)]
            refine ⟨by omega, fun h2 h3 => hc ⟨hq0, h3, h2⟩⟩
        · exact okPc_congr (h.ok q (by omega)) (hg q (by omega)) (fun hq0 => hg _ (by omega))
      · rw [hl9] at hq
        rw [hlt q (by omega), doneTo_app _ _ _ _ (by omega)]
        by_cases e2 : q = out.length
        · subst e2
          rw [hgm, hx]
          intro h1 i hi h2
          refine h.gap h1 i hi ?_
          have := h.left i hi
          omega
        · rw [hg q (by omega)]; exact h.idle q (by omega)
      · rw [hlast2] at hgap; push_cast at hgap; omega
      · rw [hlast2]; push_cast; omega
      · have h1 := h.left i hi
        rw [hdn i hi, getD_set_i _ _ _ _ _ (by rw [hlen]; exact hj)]
        by_cases e2 : i = j
        · subst e2; rw [if_pos rfl, if_pos rfl]; omega
        · rw [if_neg e2, if_neg e2]; omega
theorem pinv_run (sh : Bool) {L : List J4} (hL : JobsOk L) : ∀ k, k ≤ 300 → PInv L k (runP sh L k).1 (runP sh L k).2
  | 0, _ => ⟨fun q hq => absurd hq (by simp [runP]), fun q hq => absurd hq (by simp [runP]), fun h => absurd h (by show ¬ lastTo ([] : List P3) 0 < _; rw [lastTo, if_pos rfl]; simp), by show lastTo ([] : List P3) 0 ≤ _; rw [lastTo, if_pos rfl]; exact Int.le_refl _, fun j hj => by
      show (timesOf L).getD j 0 = _ - (List.replicate L.length (0 : Int)).getD j 0
      rw [timesOf_getD, List.getD_eq_getElem?_getD (l := List.replicate _ _), List.getElem?_replicate, if_pos hj]; simp⟩
  | k + 1, hk => PInv.step hL (by omega) (runP_ok sh hL k).len (pinv_run sh hL k (by omega))
theorem planN_whole (sh : Bool) {L : List J4} (hL : JobsOk L) : WholeP L (planN sh L) := by
  have h := pinv_run sh hL 300 (Nat.le_refl _)
  refine ⟨h.ok, fun i hi => ?_⟩
  have h1 := h.left i hi
  have h2 : leftAt sh L 300 i = 0 := left_end hL (Nat.le_refl _) i hi
  have h3 : (runP sh L 300).1.getD i 0 = 0 := h2
  rw [planN]
  omega

/-! What a whole plan can do. -/
theorem fin_ge {L : List J4} (hL : JobsOk L) {p : List P3} : ∀ k, (∀ j, j < k → OkPc L p j) → k ≤ p.length → ∀ q, q < k → (p.getD q p0).to ≤ (finTo L.length p k).getD (p.getD q p0).job.toNat 0
  | 0, _, _, q, hq => absurd hq (by omega)
  | k + 1, h, hkl, q, hq => by
    have hk := h k (by omega)
    have hkj : (p.getD k p0).job.toNat < L.length := by have := hk.ja; have := hk.jb; omega
    rw [finTo, getD_set_i _ _ _ _ _ (by rw [finTo_len]; exact hkj)]
    by_cases e : q = k
    · subst e; rw [if_pos rfl]; exact Int.le_refl _
    · have ih := fin_ge hL k (fun j hj => h j (by omega)) (by omega) q (by omega)
      split
      · -- the pieces lie in order
        have hmono : ∀ d, q + d ≤ k → (p.getD q p0).to ≤ (p.getD (q + d) p0).to := fun d => by
          induction d with
          | zero => intro _; exact Int.le_refl _
          | succ d ihd =>
            intro hd
            have h1 := ihd (by omega)
            have h2 := h (q + d + 1) (by omega)
            have h3 := (h2.prev (by omega)).1
            rw [show q + d + 1 - 1 = q + d by omega] at h3
            have h4 := h2.lt
            show _ ≤ (p.getD (q + d + 1) p0).to
            omega
        have := hmono (k - q) (by omega)
        rw [show q + (k - q) = k by omega] at this
        exact this
      · exact ih
theorem work_le {L : List J4} (hL : JobsOk L) {p : List P3} (hp : ∀ k, k < p.length → OkPc L p k) {S : Nat → Bool} {a E : Int} (hr : ∀ j, j < L.length → S j = true → a ≤ (L.getD j j0).r) (hE : ∀ j, j < L.length → S j = true → (finN L.length p).getD j 0 ≤ E) :
    ∀ k, k ≤ p.length → sumS S (fun j => (doneTo L.length p k).getD j 0) L.length ≤ max 0 (min (lastTo p k) E - a)
  | 0, _ => by
    have h0 := sumS_congr (S := S) (T := S) (f := fun j => (doneTo L.length p 0).getD j 0) (g := fun _ => 0) (n := L.length) (fun _ _ => rfl) (fun i hi _ => by
      show (List.replicate L.length (0 : Int)).getD i 0 = 0
      rw [List.getD_eq_getElem?_getD, List.getElem?_replicate, if_pos hi]; rfl) L.length (Nat.le_refl _)
    rw [h0]
    have h1 : ∀ n, sumS S (fun _ => (0 : Int)) n = 0 := fun n => by
      induction n with
      | zero => rfl
      | succ n ih => rw [sumS, ih]; split <;> rfl
    rw [h1]; omega
  | k + 1, hk => by
    have ih := work_le hL hp hr hE k (by omega)
    have hokk := hp k (by omega)
    have hkj : (p.getD k p0).job.toNat < L.length := by have := hokk.ja; have := hokk.jb; omega
    have hone := sumS_one (S := S) (f := fun j => (doneTo L.length p (k + 1)).getD j 0) (g := fun j => (doneTo L.length p k).getD j 0) (i := (p.getD k p0).job.toNat) (fun j hj => by
      show (doneTo L.length p (k + 1)).getD j 0 = (doneTo L.length p k).getD j 0
      rw [doneTo, getD_set_i _ _ _ _ _ (by rw [doneTo_len]; exact hkj), if_neg hj]) L.length
    have hd : (doneTo L.length p (k + 1)).getD (p.getD k p0).job.toNat 0 - (doneTo L.length p k).getD (p.getD k p0).job.toNat 0 = (p.getD k p0).to - (p.getD k p0).fr := by
      rw [doneTo, getD_set_i _ _ _ _ _ (by rw [doneTo_len]; exact hkj), if_pos rfl]; omega
    have hfr := ok_from hL hokk
    have hlt := hokk.lt
    rw [lastTo_succ]
    rw [hone]
    by_cases hS : S (p.getD k p0).job.toNat = true
    · rw [if_pos ⟨hkj, hS⟩, hd]
      have h1 := hr _ hkj hS
      have h2 := hE _ hkj hS
      have h3 := fin_ge hL p.length hp (Nat.le_refl _) k (by omega)
      have h4 := hokk.rel
      rw [finN] at h2
      omega
    · rw [if_neg (fun h => hS h.2)]
      omega
/-- Jobs that are not released ahead of a, and end at E at the latest: their work fits in between. -/
theorem whole_fits {L : List J4} (hL : JobsOk L) {p : List P3} (h : WholeP L p) {S : Nat → Bool} {a E : Int} (hr : ∀ j, j < L.length → S j = true → a ≤ (L.getD j j0).r) (hE : ∀ j, j < L.length → S j = true → (finN L.length p).getD j 0 ≤ E) :
    sumS S (fun j => (L.getD j j0).t) L.length ≤ max 0 (E - a) := by
  have h1 := work_le hL h.pcs hr hE p.length (Nat.le_refl _)
  have h2 := sumS_congr (S := S) (T := S) (f := fun j => (doneTo L.length p p.length).getD j 0) (g := fun j => (L.getD j j0).t) (n := L.length) (fun _ _ => rfl) (fun i hi _ => h.all i hi) L.length (Nat.le_refl _)
  rw [h2] at h1
  omega
end Go.Proofs.Ytiadineakhcclaa

/-
  Plain: the plan by the Time left has the least sum of ends.
-/
namespace Go.Proofs.Ytiadineakhcclaa
set_option linter.unusedVariables false
set_option linter.unusedSimpArgs false

/-! Sums over all numbers below n. -/
def sumF (f : Nat → Int) : Nat → Int
  | 0 => 0
  | k + 1 => sumF f k + f k
theorem sumF_le {f g : Nat → Int} : ∀ k, (∀ i, i < k → f i ≤ g i) → sumF f k ≤ sumF g k
  | 0, _ => Int.le_refl _
  | k + 1, h => by have h1 := sumF_le k (fun i hi => h i (by omega)); have h2 := h k (by omega); rw [sumF, sumF]; omega
theorem sumF_congr {f g : Nat → Int} : ∀ k, (∀ i, i < k → f i = g i) → sumF f k = sumF g k
  | 0, _ => rfl
  | k + 1, h => by rw [sumF, sumF, sumF_congr k (fun i hi => h i (by omega)), h k (by omega)]
theorem sumF_one {f g : Nat → Int} {i : Nat} : ∀ k, (∀ j, j < k → j ≠ i → f j = g j) → sumF f k = sumF g k + if i < k then f i - g i else 0
  | 0, _ => by simp [sumF]
  | k + 1, h => by
    rw [sumF, sumF, sumF_one k (fun j hj => h j (by omega))]
    by_cases e : k = i
    · subst e
      rw [if_neg (Nat.lt_irrefl _), if_pos (by omega)]; omega
    · rw [h k (by omega) e]
      by_cases h2 : i < k
      · rw [if_pos h2, if_pos (by omega)]; omega
      · rw [if_neg h2, if_neg (by omega)]; omega
theorem sumF_nonneg {f : Nat → Int} : ∀ k, (∀ i, i < k → 0 ≤ f i) → 0 ≤ sumF f k
  | 0, _ => Int.le_refl _
  | k + 1, h => by have h1 := sumF_nonneg k (fun i hi => h i (by omega)); have h2 := h k (by omega); rw [sumF]; omega
theorem sumF_ge {f : Nat → Int} : ∀ k, (∀ i, i < k → 0 ≤ f i) → ∀ i, i < k → f i ≤ sumF f k
  | 0, _, i, hi => absurd hi (by omega)
  | k + 1, h, i, hi => by
    rw [sumF]
    have h0 := sumF_nonneg k (fun i hi => h i (by omega))
    have h1 := h k (by omega)
    by_cases e : i = k
    · subst e; omega
    · have := sumF_ge k (fun i hi => h i (by omega)) i (by omega); omega
theorem sumF_pos {f : Nat → Int} : ∀ k, 0 < sumF f k → ∃ i, i < k ∧ 0 < f i
  | 0, h => absurd h (by simp [sumF])
  | k + 1, h => by
    rw [sumF] at h
    by_cases h2 : 0 < f k
    · exact ⟨k, by omega, h2⟩
    · obtain ⟨i, hi, h3⟩ := sumF_pos (f := f) k (by omega)
      exact ⟨i, by omega, h3⟩
theorem sumF_add (f g : Nat → Int) : ∀ k, sumF (fun i => f i + g i) k = sumF f k + sumF g k
  | 0 => rfl
  | k + 1 => by rw [sumF, sumF, sumF, sumF_add f g k]; omega
theorem sumF_zero : ∀ k, sumF (fun _ => 0) k = 0
  | 0 => rfl
  | k + 1 => by rw [sumF, sumF_zero k]; rfl
theorem sumF_swap (f : Nat → Nat → Int) (n : Nat) : ∀ k, sumF (fun i => sumF (fun t => f i t) k) n = sumF (fun t => sumF (fun i => f i t) n) k
  | 0 => by rw [sumF]; exact sumF_zero n
  | k + 1 => by
    rw [sumF, ← sumF_swap f n k, ← sumF_add]; rfl
theorem sumF_first (e : Nat) : ∀ k, sumF (fun t => if t < e then 1 else 0) k = if k ≤ e then (k : Int) else e
  | 0 => by rw [sumF, if_pos (by omega)]; rfl
  | k + 1 => by
    rw [sumF, sumF_first e k]
    by_cases h1 : k + 1 ≤ e
    · rw [if_pos (by omega), if_pos (by omega), if_pos h1]; push_cast; omega
    · by_cases h2 : k ≤ e
      · rw [if_pos h2, if_neg (by omega), if_neg h1]; omega
      · rw [if_neg h2, if_neg (by omega), if_neg h1]; omega

/-! Another whole plan, unit by unit. -/
def dn (p : List P3) (t : Int) (i : Nat) : Nat → Int
  | 0 => 0
  | m + 1 => dn p t i m + if (p.getD m p0).job.toNat = i then max 0 (min (p.getD m p0).to t - (p.getD m p0).fr) else 0
theorem doneTo_sum_i {L : List J4} {p : List P3} {i : Nat} (hi : i < L.length) : ∀ m, (∀ k, k < m → OkPc L p k) → (doneTo L.length p (m)).getD i 0 = sumF (fun k => if (p.getD k p0).job.toNat = i then (p.getD k p0).to - (p.getD k p0).fr else 0) m
  | 0, _ => by show (List.replicate L.length (0 : Int)).getD i 0 = 0; rw [List.getD_eq_getElem?_getD, List.getElem?_replicate, if_pos hi]; rfl
  | m + 1, h => by
    have hk := h m (by omega)
    rw [doneTo, sumF, ← doneTo_sum_i hi m (fun k hk => h k (by omega)), getD_set_i _ _ _ _ _ (by rw [doneTo_len]; have := hk.ja; have := hk.jb; omega)]
    by_cases e : i = (p.getD m p0).job.toNat
    · rw [if_pos e, if_pos e.symm, ← e]
    · rw [if_neg e, if_neg (fun h => e h.symm)]; omega
theorem dn_sum (p : List P3) (t : Int) (i : Nat) : ∀ m, dn p t i m = sumF (fun k => if (p.getD k p0).job.toNat = i then max 0 (min (p.getD k p0).to t - (p.getD k p0).fr) else 0) m
  | 0 => rfl
  | m + 1 => by rw [dn, sumF, dn_sum p t i m]
/-- Which piece holds time t. -/
def cov (p : List P3) (t : Int) (m : Nat) : Prop := ∃ k, k < m ∧ (p.getD k p0).fr ≤ t ∧ t < (p.getD k p0).to
theorem to_le {L : List J4} {p : List P3} : ∀ d k, (∀ j, j ≤ k + d → OkPc L p j) → d ≠ 0 → (p.getD k p0).to ≤ (p.getD (k + d) p0).fr
  | 0, k, _, h => absurd rfl h
  | d + 1, k, h, _ => by
    have h1 := (h (k + d + 1) (by omega)).prev (by omega)
    rw [show k + d + 1 - 1 = k + d by omega] at h1
    by_cases e : d = 0
    · subst e; exact h1.1
    · have h2 := to_le d k (fun j hj => h j (by omega)) e
      have h3 := (h (k + d) (by omega)).lt
      show _ ≤ (p.getD (k + d + 1) p0).fr
      omega
theorem cov_one {L : List J4} {p : List P3} (h : ∀ k, k < p.length → OkPc L p k) {t : Int} {k k' : Nat} (hk : k < p.length) (hk' : k' < p.length) (h1 : (p.getD k p0).fr ≤ t ∧ t < (p.getD k p0).to) (h2 : (p.getD k' p0).fr ≤ t ∧ t < (p.getD k' p0).to) : k = k' := by
  rcases Nat.lt_trichotomy k k' with e | e | e
  · have := to_le (L := L) (p := p) (k' - k) k (fun j hj => h j (by omega)) (by omega)
    rw [show k + (k' - k) = k' by omega] at this
    omega
  · exact e
  · have := to_le (L := L) (p := p) (k - k') k' (fun j hj => h j (by omega)) (by omega)
    rw [show k' + (k - k') = k by omega] at this
    omega
def rest (L : List J4) (p : List P3) (t : Nat) (i : Nat) : Int := (L.getD i j0).t - dn p t i p.length
theorem rest_step {L : List J4} (hL : JobsOk L) {p : List P3} (h : WholeP L p) (t : Nat) : (∀ i, i < L.length → rest L p (t + 1) i = rest L p t i) ∨
    ∃ j, j < L.length ∧ (L.getD j j0).r ≤ t ∧ rest L p (t + 1) j = rest L p t j - 1 ∧ ∀ i, i < L.length → i ≠ j → rest L p (t + 1) i = rest L p t i := by
  have hterm : ∀ k, k < p.length → max 0 (min (p.getD k p0).to ((t + 1 : Nat) : Int) - (p.getD k p0).fr) = max 0 (min (p.getD k p0).to (t : Int) - (p.getD k p0).fr) + if (p.getD k p0).fr ≤ (t : Int) ∧ (t : Int) < (p.getD k p0).to then 1 else 0 := fun k hk => by
    have := (h.pcs k hk).lt
    split <;> (push_cast; omega)
  by_cases hc : cov p t p.length
  · right
    obtain ⟨k, hk, hk1, hk2⟩ := hc
    have hok := h.pcs k hk
    refine ⟨(p.getD k p0).job.toNat, by have := hok.ja; have := hok.jb; omega, by have := hok.rel; omega, ?_, fun i hi hne => ?_⟩
    · rw [rest, rest, dn_sum, dn_sum]
      have h1 := sumF_one (f := fun k' => if (p.getD k' p0).job.toNat = (p.getD k p0).job.toNat then max 0 (min (p.getD k' p0).to ((t + 1 : Nat) : Int) - (p.getD k' p0).fr) else 0) (g := fun k' => if (p.getD k' p0).job.toNat = (p.getD k p0).job.toNat then max 0 (min (p.getD k' p0).to (t : Int) - (p.getD k' p0).fr) else 0) (i := k) p.length (fun j hj hne => by
        show (if _ then _ else _) = (if _ then _ else _)
        rw [hterm j hj, if_neg (fun hh => hne (cov_one h.pcs hj hk hh ⟨hk1, hk2⟩)), Int.add_zero])
      rw [h1, if_pos hk, if_pos rfl, if_pos rfl, hterm k hk, if_pos ⟨hk1, hk2⟩]
      omega
    · rw [rest, rest, dn_sum, dn_sum]
      congr 1
      refine sumF_congr _ fun j hj => ?_
      by_cases e : (p.getD j p0).job.toNat = i
      · rw [if_pos e, if_pos e, hterm j hj, if_neg (fun hh => hne (by rw [← e, cov_one h.pcs hj hk hh ⟨hk1, hk2⟩])), Int.add_zero]
      · rw [if_neg e, if_neg e]
  · left
    intro i hi
    rw [rest, rest, dn_sum, dn_sum]
    congr 1
    refine sumF_congr _ fun j hj => ?_
    rw [hterm j hj, if_neg (fun hh => hc ⟨j, hj, hh⟩), Int.add_zero]
theorem rest_zero {L : List J4} (hL : JobsOk L) {p : List P3} (h : WholeP L p) (i : Nat) : rest L p 0 i = (L.getD i j0).t := by
  rw [rest, dn_sum]
  have : sumF (fun k => if (p.getD k p0).job.toNat = i then max 0 (min (p.getD k p0).to ((0 : Nat) : Int) - (p.getD k p0).fr) else 0) p.length = sumF (fun _ => 0) p.length := sumF_congr _ fun j hj => by
    have h1 := ok_from hL (h.pcs j hj)
    have h2 := (h.pcs j hj).lt
    split
    · omega
    · rfl
  rw [this, sumF_zero]; omega
theorem rest_sum {L : List J4} {p : List P3} (h : WholeP L p) (t i : Nat) (hi : i < L.length) : rest L p t i = sumF (fun k => if (p.getD k p0).job.toNat = i then (p.getD k p0).to - (p.getD k p0).fr - max 0 (min (p.getD k p0).to (t : Int) - (p.getD k p0).fr) else 0) p.length := by
  have h1 := h.all i hi
  rw [doneTo_sum_i hi _ h.pcs] at h1
  rw [rest, ← h1, dn_sum]
  have h2 := sumF_add (fun k => if (p.getD k p0).job.toNat = i then max 0 (min (p.getD k p0).to (t : Int) - (p.getD k p0).fr) else 0) (fun k => if (p.getD k p0).job.toNat = i then (p.getD k p0).to - (p.getD k p0).fr - max 0 (min (p.getD k p0).to (t : Int) - (p.getD k p0).fr) else 0) p.length
  have h3 := sumF_congr (f := fun k => (if (p.getD k p0).job.toNat = i then max 0 (min (p.getD k p0).to (t : Int) - (p.getD k p0).fr) else 0) + (if (p.getD k p0).job.toNat = i then (p.getD k p0).to - (p.getD k p0).fr - max 0 (min (p.getD k p0).to (t : Int) - (p.getD k p0).fr) else 0)) (g := fun k => if (p.getD k p0).job.toNat = i then (p.getD k p0).to - (p.getD k p0).fr else 0) p.length (fun j hj => by
    split <;> omega)
  omega
theorem fin_some {L : List J4} {p : List P3} {i : Nat} : ∀ m, (∀ k, k < m → OkPc L p k) → 0 < (finTo L.length p m).getD i 0 → ∃ k, k < m ∧ (p.getD k p0).job.toNat = i ∧ (p.getD k p0).to = (finTo L.length p m).getD i 0
  | 0, _, h => by
    exfalso
    rw [finTo, List.getD_eq_getElem?_getD, List.getElem?_replicate] at h
    split at h <;> simp at h
  | m + 1, h, hp => by
    have hk := h m (by omega)
    rw [finTo, getD_set_i _ _ _ _ _ (by rw [finTo_len]; have := hk.ja; have := hk.jb; omega)] at hp ⊢
    by_cases e : i = (p.getD m p0).job.toNat
    · rw [if_pos e]; exact ⟨m, by omega, e.symm, rfl⟩
    · rw [if_neg e] at hp ⊢
      obtain ⟨k, hk1, hk2, hk3⟩ := fin_some m (fun k hk => h k (by omega)) hp
      exact ⟨k, by omega, hk2, hk3⟩
theorem rest_pos {L : List J4} (hL : JobsOk L) {p : List P3} (h : WholeP L p) (t i : Nat) (hi : i < L.length) : 0 < rest L p t i ↔ (t : Int) < (finN L.length p).getD i 0 := by
  rw [rest_sum h t i hi]
  constructor
  · intro h1
    obtain ⟨k, hk, h2⟩ := sumF_pos _ h1
    have h3 := fin_ge hL p.length h.pcs (Nat.le_refl _) k hk
    have h4 := (h.pcs k hk).lt
    split at h2
    · rename_i e
      rw [e] at h3
      rw [finN]
      omega
    · omega
  · intro h1
    obtain ⟨k, hk, h2, h3⟩ := fin_some (i := i) p.length h.pcs (by rw [finN] at h1; omega)
    have h4 := (h.pcs k hk).lt
    have h5 := sumF_ge (f := fun k => if (p.getD k p0).job.toNat = i then (p.getD k p0).to - (p.getD k p0).fr - max 0 (min (p.getD k p0).to (t : Int) - (p.getD k p0).fr) else 0) p.length (fun j hj => by
      have := (h.pcs j hj).lt
      show 0 ≤ (if (p.getD j p0).job.toNat = i then (p.getD j p0).to - (p.getD j p0).fr - max 0 (min (p.getD j p0).to (t : Int) - (p.getD j p0).fr) else 0)
      split <;> omega) k hk
    simp only [if_pos h2] at h5
    rw [finN] at h1
    omega
theorem rest_nonneg {L : List J4} (hL : JobsOk L) {p : List P3} (h : WholeP L p) (t i : Nat) (hi : i < L.length) : 0 ≤ rest L p t i := by
  rw [rest_sum h t i hi]
  refine sumF_nonneg _ fun j hj => ?_
  have := (h.pcs j hj).lt
  split <;> omega

/-! No time has fewer jobs left. -/
def cardR (R : Nat → Bool) (n : Nat) : Int := sumF (fun i => if R i then 1 else 0) n
def outR (R : Nat → Bool) (x : Nat → Int) (n : Nat) : Int := sumF (fun i => if R i then 0 else x i) n
theorem early {L : List J4} (hL : JobsOk L) {p : List P3} (h : WholeP L p) : ∀ t : Nat, (∀ i, i < L.length → (t : Int) < (L.getD i j0).r → rest L p t i = (L.getD i j0).t ∧ leftAt true L t i = (L.getD i j0).t)
  | 0, i, hi, _ => ⟨rest_zero hL h i, left_zero true L i⟩
  | t + 1, i, hi, hr => by
    obtain ⟨h1, h2⟩ := early hL h t i hi (by push_cast at hr; omega)
    constructor
    · rcases rest_step hL h t with hs | ⟨j, hj, hjr, _, hs⟩
      · rw [hs i hi]; exact h1
      · rw [hs i hi (fun e => by subst e; push_cast at hr; omega)]; exact h1
    · rcases sched_cases true L t with ⟨e, _⟩ | ⟨j, hj, e, hjr, _, _⟩
      · rw [left_idle e]; exact h2
      · rw [left_work hL e hj, if_neg (fun e2 => by subst e2; push_cast at hr; omega)]; exact h2
theorem dom {L : List J4} (hL : JobsOk L) {p : List P3} (h : WholeP L p) : ∀ t : Nat, ∀ R : Nat → Bool, ∃ R' : Nat → Bool, (∀ i, i < L.length → (t : Int) < (L.getD i j0).r → R' i = R i) ∧ cardR R' L.length ≤ cardR R L.length ∧ outR R' (leftAt true L t) L.length ≤ outR R (rest L p t) L.length
  | 0, R => ⟨R, fun _ _ _ => rfl, Int.le_refl _, by
      refine sumF_le _ fun i hi => ?_
      rw [rest_zero hL h i, left_zero]; exact Int.le_refl _⟩
  | t + 1, R => by
    obtain ⟨R', h1, h2, h3⟩ := dom hL h t R
    have hx0 : ∀ i, i < L.length → 0 ≤ leftAt true L t i := fun i hi => (left_bd hL t i hi).1
    have hxm : ∀ i, leftAt true L (t + 1) i ≤ leftAt true L t i := fun i => left_le_succ hL t i
    have hless : ∀ R'' : Nat → Bool, outR R'' (leftAt true L (t + 1)) L.length ≤ outR R'' (leftAt true L t) L.length := fun R'' => sumF_le _ fun i hi => by
      have := hxm i
      split <;> omega
    have hu : ∀ R'' : Nat → Bool, (∀ i, i < L.length → (t : Int) < (L.getD i j0).r → R'' i = R i) → ∀ i, i < L.length → ((t + 1 : Nat) : Int) < (L.getD i j0).r → R'' i = R i := fun R'' hh i hi hr => hh i hi (by push_cast at hr; omega)
    rcases rest_step hL h t with hs | ⟨j, hj, hjr, hj1, hs⟩
    · refine ⟨R', hu R' h1, h2, Int.le_trans (hless R') (Int.le_trans h3 (Int.le_of_eq ?_))⟩
      exact (sumF_congr _ fun i hi => by rw [hs i hi]).symm
    · by_cases hjR : R j = true
      · refine ⟨R', hu R' h1, h2, Int.le_trans (hless R') (Int.le_trans h3 (Int.le_of_eq ?_))⟩
        refine (sumF_congr _ fun i hi => ?_).symm
        by_cases e : i = j
        · subst e; rw [if_pos hjR, if_pos hjR]
        · rw [hs i hi e]
      · have hdrop : outR R (rest L p (t + 1)) L.length = outR R (rest L p t) L.length - 1 := by
          have h4 : outR R (rest L p (t + 1)) L.length = outR R (rest L p t) L.length + if j < L.length then (if R j = true then 0 else rest L p (t + 1) j) - (if R j = true then 0 else rest L p t j) else 0 := sumF_one L.length (fun i hi hne => by
            show (if _ then _ else _) = (if _ then _ else _)
            rw [hs i hi hne])
          rw [if_pos hj, if_neg hjR, if_neg hjR, hj1] at h4
          omega
        by_cases hlt : outR R' (leftAt true L t) L.length ≤ outR R (rest L p t) L.length - 1
        · exact ⟨R', hu R' h1, h2, by rw [hdrop]; exact Int.le_trans (hless R') hlt⟩
        · -- the same work: somebody who is released and not in R' has work left
          have heq : outR R' (leftAt true L t) L.length = outR R (rest L p t) L.length := by omega
          have hjpos : 1 ≤ rest L p t j := by have := rest_nonneg hL h (t + 1) j hj; omega
          have hi0 : ∃ i, i < L.length ∧ (L.getD i j0).r ≤ t ∧ R' i ≠ true ∧ 0 < leftAt true L t i := by
            refine Classical.byContradiction fun hno => ?_
            have h5 : outR R' (leftAt true L t) L.length ≤ sumF (fun i => if R i then 0 else if (t : Int) < (L.getD i j0).r then rest L p t i else 0) L.length := sumF_le _ fun i hi => by
              by_cases hr : (t : Int) < (L.getD i j0).r
              · obtain ⟨e1, e2⟩ := early hL h t i hi hr
                show (if R' i = true then _ else _) ≤ (if R i = true then _ else _)
                rw [h1 i hi hr, e2, if_pos hr, e1]; exact Int.le_refl _
              · have h6 : (if R' i = true then 0 else leftAt true L t i) ≤ 0 := by
                  by_cases e : R' i = true
                  · rw [if_pos e]; exact Int.le_refl _
                  · rw [if_neg e]
                    refine Int.not_lt.1 fun h7 => hno ⟨i, hi, by omega, e, h7⟩
                show (if R' i = true then _ else _) ≤ (if R i = true then _ else _)
                rw [if_neg hr, show (if R i = true then (0 : Int) else 0) = 0 from by split <;> rfl]
                exact h6
            have h6 : outR R (rest L p t) L.length = sumF (fun i => if i = j then 0 else if R i then 0 else rest L p t i) L.length + if j < L.length then (if R j = true then 0 else rest L p t j) - (if j = j then 0 else if R j then 0 else rest L p t j) else 0 := sumF_one L.length (fun i hi hne => by
              show _ = (if _ then _ else _)
              rw [if_neg hne])
            have h7 : sumF (fun i => if R i then 0 else if (t : Int) < (L.getD i j0).r then rest L p t i else 0) L.length ≤ sumF (fun i => if i = j then 0 else if R i then 0 else rest L p t i) L.length := sumF_le _ fun i hi => by
              have := rest_nonneg hL h t i hi
              by_cases e : i = j
              · subst e
                rw [if_pos rfl, if_neg hjR, if_neg (by omega)]; exact Int.le_refl _
              · rw [if_neg e]
                split
                · exact Int.le_refl _
                · split <;> omega
            rw [if_pos hj, if_neg hjR, if_pos rfl] at h6
            omega
          obtain ⟨i, hi, hir, hiR, hix⟩ := hi0
          rcases sched_cases true L t with ⟨e, hno⟩ | ⟨s, hs9, e, hsr, hsx, hmin⟩
          · exact absurd ⟨hir, hix⟩ (hno i hi)
          · have hle : leftAt true L t s ≤ leftAt true L t i := hmin i hi hir hix
            have hstep : ∀ R'' : Nat → Bool, R'' s ≠ true → outR R'' (leftAt true L (t + 1)) L.length = outR R'' (leftAt true L t) L.length - 1 := fun R'' hR => by
              have h4 : outR R'' (leftAt true L (t + 1)) L.length = outR R'' (leftAt true L t) L.length + if s < L.length then (if R'' s = true then 0 else leftAt true L (t + 1) s) - (if R'' s = true then 0 else leftAt true L t s) else 0 := sumF_one L.length (fun i hi hne => by
                show (if _ then _ else _) = (if _ then _ else _)
                rw [left_work hL e hs9, if_neg hne])
              rw [if_pos hs9, if_neg hR, if_neg hR, left_work hL e hs9, if_pos rfl] at h4
              omega
            by_cases hsR : R' s = true
            · have hsi : s ≠ i := fun e2 => hiR (e2 ▸ hsR)
              refine ⟨fun k => if k = s then false else if k = i then true else R' k, hu _ fun k hk hr => ?_, ?_, ?_⟩
              · show (if k = s then false else if k = i then true else R' k) = R k
                rw [if_neg (fun e2 => by subst e2; omega), if_neg (fun e2 => by subst e2; omega)]
                exact h1 k hk hr
              · -- one out, one in
                have c1 : cardR (fun k => if k = s then false else if k = i then true else R' k) L.length = cardR (fun k => if k = i then true else R' k) L.length + if s < L.length then (if (if s = s then false else if s = i then true else R' s) = true then 1 else 0) - (if (if s = i then true else R' s) = true then 1 else 0) else 0 := sumF_one L.length (fun k hk hne => by
                  show (if (if k = s then false else if k = i then true else R' k) = true then (1 : Int) else 0) = (if (if k = i then true else R' k) = true then 1 else 0)
                  rw [if_neg hne])
                have c2 : cardR (fun k => if k = i then true else R' k) L.length = cardR R' L.length + if i < L.length then (if (if i = i then true else R' i) = true then 1 else 0) - (if R' i = true then 1 else 0) else 0 := sumF_one L.length (fun k hk hne => by
                  show (if (if k = i then true else R' k) = true then (1 : Int) else 0) = (if R' k = true then 1 else 0)
                  rw [if_neg hne])
                rw [if_pos hs9, if_pos rfl, if_neg (by simp), if_neg hsi, if_pos hsR] at c1
                rw [if_pos hi, if_pos rfl, if_pos rfl, if_neg hiR] at c2
                omega
              · have c1 : outR (fun k => if k = s then false else if k = i then true else R' k) (leftAt true L t) L.length = outR (fun k => if k = i then true else R' k) (leftAt true L t) L.length + if s < L.length then (if (if s = s then false else if s = i then true else R' s) = true then 0 else leftAt true L t s) - (if (if s = i then true else R' s) = true then 0 else leftAt true L t s) else 0 := sumF_one L.length (fun k hk hne => by
                  show (if (if k = s then false else if k = i then true else R' k) = true then (0 : Int) else leftAt true L t k) = (if (if k = i then true else R' k) = true then 0 else leftAt true L t k)
                  rw [if_neg hne])
                have c2 : outR (fun k => if k = i then true else R' k) (leftAt true L t) L.length = outR R' (leftAt true L t) L.length + if i < L.length then (if (if i = i then true else R' i) = true then 0 else leftAt true L t i) - (if R' i = true then 0 else leftAt true L t i) else 0 := sumF_one L.length (fun k hk hne => by
                  show (if (if k = i then true else R' k) = true then (0 : Int) else leftAt true L t k) = (if R' k = true then 0 else leftAt true L t k)
                  rw [if_neg hne])
                rw [if_pos hs9, if_pos rfl, if_neg (by simp), if_neg hsi, if_pos hsR] at c1
                rw [if_pos hi, if_pos rfl, if_pos rfl, if_neg hiR] at c2
                rw [hstep _ (by show ¬ (if s = s then false else _) = true; rw [if_pos rfl]; simp), hdrop]
                omega
            · exact ⟨R', hu R' h1, h2, by rw [hstep R' hsR, hdrop]; omega⟩
theorem fewer {L : List J4} (hL : JobsOk L) {p : List P3} (h : WholeP L p) (t : Nat) : sumF (fun i => if 0 < leftAt true L t i then 1 else 0) L.length ≤ sumF (fun i => if 0 < rest L p t i then 1 else 0) L.length := by
  obtain ⟨R', h1, h2, h3⟩ := dom hL h t (fun i => decide (0 < rest L p t i))
  have h4 : outR (fun i => decide (0 < rest L p t i)) (rest L p t) L.length = 0 := by
    unfold outR
    rw [sumF_congr (g := fun _ => 0) _ (fun i hi => by
      have := rest_nonneg hL h t i hi
      show (if decide (0 < rest L p t i) = true then _ else _) = _
      by_cases e : 0 < rest L p t i
      · rw [if_pos (decide_eq_true e)]
      · rw [if_neg (by simpa using e)]; omega)]
    exact sumF_zero _
  rw [h4] at h3
  have h5 : ∀ i, i < L.length → R' i ≠ true → leftAt true L t i ≤ 0 := fun i hi hR => by
    have h6 := sumF_ge (f := fun i => if R' i then 0 else leftAt true L t i) L.length (fun k hk => by
      have := (left_bd (sh := true) hL t k hk).1
      show 0 ≤ (if R' k = true then 0 else leftAt true L t k)
      split <;> omega) i hi
    simp only [if_neg hR] at h6
    unfold outR at h3
    omega
  have h6 : sumF (fun i => if 0 < leftAt true L t i then (1 : Int) else 0) L.length ≤ cardR R' L.length := sumF_le _ fun i hi => by
    show (if _ then _ else _) ≤ (if _ then _ else _)
    by_cases e : R' i = true
    · rw [if_pos e]; split <;> omega
    · rw [if_neg e, if_neg (by have := h5 i hi e; omega)]; exact Int.le_refl _
  have h7 : cardR (fun i => decide (0 < rest L p t i)) L.length = sumF (fun i => if 0 < rest L p t i then (1 : Int) else 0) L.length := sumF_congr _ fun i hi => by
    show (if decide (0 < rest L p t i) = true then _ else _) = _
    by_cases e : 0 < rest L p t i
    · rw [if_pos (decide_eq_true e), if_pos e]
    · rw [if_neg (by simpa using e), if_neg e]
  omega
theorem left_pos {L : List J4} (hL : JobsOk L) (t i : Nat) (hi : i < L.length) : 0 < leftAt true L t i ↔ (t : Int) < (finN L.length (planN true L)).getD i 0 := by
  rcases end_last (sh := true) hL i hi 300 with ⟨h1, _⟩ | ⟨T, hT, h1, h2, h3⟩
  · have := left_end (sh := true) hL (Nat.le_refl _) i hi
    have := (hL.at_ i hi).1
    omega
  · have h4 := left_end (sh := true) hL (Nat.le_refl _) i hi
    have h5 : (finN L.length (planN true L)).getD i 0 = (T : Int) + 1 := h2
    rw [h5]
    have hT1 : 0 < leftAt true L T i := by
      rcases sched_cases true L T with ⟨e, _⟩ | ⟨j, hj, e, _, h6, _⟩
      · omega
      · obtain rfl : j = i := by omega
        exact h6
    constructor
    · intro h6
      refine Int.not_le.1 fun h7 => ?_
      have := left_mono (sh := true) hL (show T + 1 ≤ t by omega) i
      omega
    · intro h6
      have := left_mono (sh := true) hL (show t ≤ T by omega) i
      omega
/-- No whole plan has a lesser sum of ends. -/
theorem short_best {L : List J4} (hL : JobsOk L) {p : List P3} (h : WholeP L p) : sumF (fun i => (finN L.length (planN true L)).getD i 0) L.length ≤ sumF (fun i => (finN L.length p).getD i 0) L.length := by
  have hsum : ∀ (e : Nat → Int), (∀ i, i < L.length → 0 ≤ e i ∧ e i ≤ 1001) → sumF e L.length = sumF (fun t => sumF (fun i => if (t : Int) < e i then 1 else 0) L.length) 1001 := fun e he => by
    rw [← sumF_swap (fun i t => if (t : Int) < e i then 1 else 0) L.length 1001]
    refine sumF_congr _ fun i hi => ?_
    have h1 := he i hi
    have h2 := sumF_first (e i).toNat 1001
    rw [sumF_congr (g := fun t : Nat => if t < (e i).toNat then 1 else 0) 1001 (fun t ht => by
      by_cases e2 : (t : Int) < e i
      · rw [if_pos e2, if_pos (by omega)]
      · rw [if_neg e2, if_neg (by omega)]), h2]
    split <;> omega
  have hb := whole_to hL h
  have hb2 := whole_to hL (planN_whole true hL)
  rw [hsum _ (fun i hi => by have := finTo_bd (n := L.length) (p := planN true L) (m := 1000) (by omega) (fun q hq => (hb2.2 q hq).2.2) _ (Nat.le_refl _) i; rw [finN]; omega),
    hsum _ (fun i hi => by have := finTo_bd (n := L.length) (p := p) (m := 1000) (by omega) (fun q hq => (hb.2 q hq).2.2) _ (Nat.le_refl _) i; rw [finN]; omega)]
  refine sumF_le _ fun t ht => ?_
  have h1 := fewer hL h t
  rw [sumF_congr (f := fun i => if 0 < leftAt true L t i then (1 : Int) else 0) (g := fun i => if (t : Int) < (finN L.length (planN true L)).getD i 0 then 1 else 0) _ (fun i hi => by simp only [left_pos hL t i hi]),
    sumF_congr (f := fun i => if 0 < rest L p t i then (1 : Int) else 0) (g := fun i => if (t : Int) < (finN L.length p).getD i 0 then 1 else 0) _ (fun i hi => by simp only [rest_pos hL h t i hi])] at h1
  exact h1
end Go.Proofs.Ytiadineakhcclaa

/-
  The closure of DatesBest; the plans are best.
-/
namespace Go.Proofs.Ytiadineakhcclaa
open Go.RowKit Go.Deep
set_option linter.unusedVariables false
set_option linter.unusedSimpArgs false

theorem sumT_F (e : List Int) : ∀ n, sumT e n = sumF (fun i => e.getD i 0) n
  | 0 => rfl
  | n + 1 => by rw [sumT, sumF, sumT_F e n]
theorem plan_best {L : List J4} (hL : JobsOk L) {p : List P3} (h : WholeP L p) : delN L (planN false L) ≤ rdelTo L (finN L.length p) L.length := by
  obtain ⟨x, hx, hd⟩ := delN_at hL (planN false L)
  obtain ⟨a, ha, hb⟩ := edf hL x hx
  have hxb := hL.at_ x hx
  refine Int.not_lt.1 fun hlt => ?_
  have hall : ∀ k, k ≤ L.length → ∀ j, j < k → (finN L.length p).getD j 0 - (L.getD j j0).d ≤ rdelTo L (finN L.length p) k := fun k => by
    induction k with
    | zero => intro _ j hj; omega
    | succ k ih =>
      intro hk j hj
      rw [rdelTo]
      by_cases e : j = k
      · subst e; omega
      · have := ih (by omega) j (by omega); omega
  have h1 := whole_fits hL h (S := inStretch L a (L.getD x j0).d) (a := a) (E := (finN L.length (planN false L)).getD x 0 - 1) (fun j hj hS => (of_decide_eq_true hS : _ ∧ _).1) (fun j hj hS => by
    have h2 := (of_decide_eq_true hS : _ ∧ _).2
    have h3 := hall _ (Nat.le_refl _) j hj
    omega)
  have h4 := sumS_ge (S := inStretch L a (L.getD x j0).d) (f := fun i => (L.getD i j0).t) (n := L.length) (fun i hi _ => by have := hL.at_ i hi; omega) L.length (Nat.le_refl _) x hx (decide_eq_true ⟨ha, Int.le_refl _⟩)
  have h5 : (L.getD x j0).t ≤ loadN L a (L.getD x j0).d := h4
  have h6 : loadN L a (L.getD x j0).d ≤ max 0 ((finN L.length (planN false L)).getD x 0 - 1 - a) := h1
  omega
theorem goes_worst : Goes Try.prog 39 := goes_of Try.func39 (by kernel_rfl) (by kernel_rfl)
set_option maxHeartbeats 1600000 in
theorem worst_any (A : Option Addr) (n c : Nat) (L : List J4) (Z : Option Addr) (zc b : Nat) (en : List Int) (w : World) (hn : L.length = n) (hL : JobsOk L) (hen : en.length = n) (hbd : ∀ i, 0 ≤ en.getD i 0 ∧ en.getD i 0 ≤ 1000) (hA : JobsA w w.heap.size A L) (hZ : IntsA w w.heap.size Z en) (hc : w.cell? ⟨b, 0, none⟩ = some (.slice A n c)) :
    Calls Try.prog 39 (#[.slice Z n zc] ++ #[.pointer (some ⟨b, 0, none⟩)]) w fun e w' => e = .returned (.tuple #[.int .i64 (rdelTo L en n), .int .i64 (sumT en n)]) ∧ w = w' := by
  have h8 : n ≤ 8 := by rw [← hn]; exact hL.le
  have HN := hide hn
  have HL := hide hL
  have HEN := hide hen
  have HBD := hide hbd
  have HA := hide hA
  have HZ := hide hZ
  clear hn hL hen hbd hA hZ
  go_enter Try.func39, Try.ntmps39
  go_wp2
  go_loop [5, 6, 11] (fun v5 v6 v11 => ∃ (k : Nat) (y z : Int), k ≤ n ∧ v11 = .int .i64 k ∧ v5 = .int .i64 y ∧ v6 = .int .i64 z ∧ 0 ≤ z ∧ z ≤ 1000 * k ∧ Hid (y = rdelTo L en k) ∧ Hid (z = sumT en k)) (fun _ _ v => n - (intOf v).toNat)
  case atStart => exact ⟨0, _, 0, Nat.zero_le _, rfl, rfl, rfl, by omega, by omega, hide rfl, hide rfl⟩
  case round =>
    obtain ⟨k, y, z, hk, rfl, rfl, rfl, hz0, hz1, HY, HS⟩ := hrel
    by_cases hlt : k < n
    · obtain ⟨b1, o1, x, rfl, hb1, hc1, hx⟩ := HZ.out.at_ (k := k) (by rw [HEN.out]; exact hlt)
      obtain ⟨bj, oj, t, r, d, u, rfl, hbj, hj0, hj1, hj2, hj3, hxj⟩ := HA.out.at_ (k := k) (by rw [HN.out]; exact hlt)
      have hkn : (k : Int) < (n : Int) := by omega
      have hxb := HBD.out k
      rw [hx.out] at hxb
      obtain ⟨hxb0, hxb1⟩ := hxb
      have hdb := HL.out.at_ k (by rw [HN.out]; exact hlt)
      rw [hxj.out] at hdb
      simp only [] at hdb
      obtain ⟨_, _, _, _, hdb0, hdb1, _, _⟩ := hdb
      have HYN : Hid ((if y < x - d then x - d else y) = rdelTo L en (k + 1)) := by
        have e : (if y < x - d then x - d else y) = max y (x - d) := by split <;> omega
        rw [e, rdelTo, ← HY.out, hx.out, hxj.out]; exact hide rfl
      have HSN : Hid (z + x = sumT en (k + 1)) := by rw [sumT, ← HS.out, hx.out]; exact hide rfl
      clear hx hxj
      go_wp2
      go_round
      case rel => exact ⟨k + 1, _, _, by omega, by go_num, rfl, rfl, by omega, by omega, HYN, HSN⟩
      case measure => simp [intOf] <;> omega
    · obtain rfl : n = k := by omega
      have e1 := HY.out
      have e2 := HS.out
      subst e1; subst e2
      go_wp2
      go_ret2
      exact ⟨rfl, rfl⟩
end Go.Proofs.Ytiadineakhcclaa

/-
  append and a call through a function value, as a region that draws its order meets them.
-/
namespace Go.Proofs.Ytiadineakhcclaa
open Go.RowKit
set_option linter.unusedVariables false
set_option linter.unusedSimpArgs false

section
variable {P : Program} {ops : Array Oper} {rest : List Oper} {o : Oper} {a : Act} {Q : Exit → Act → World → Prop} {w : World} {K : Act → World → Prop}
theorem wp_appInts (s x : Operand) (t e : TypeId) (z : Value) (bytes : Nat) (ho : o.op = .call { callee := .builtin .append, args := #[s, x], argTypes := #[t, t] })
    (ht : P.underlying t = some (.slice e)) (hinfo : (P.info? e).map (fun i => (i.zero, i.size, i.bytes)) = some (some z, 1, bytes)) (hz : z.cells.size = 1)
    (base : Nat) (v : Value) (n : Nat) (xs : List Value) (hs : a.eval s = v) (ad : Addr) (m c B : Nat) (l : List Int) (hx : a.eval x = .slice (some ad) m c) (hm : l.length = m) (hI : IntsA w B (some ad) l)
    (hown : w.ownsRow base e 1 v n xs) (hbytes : (n + m) * bytes ≤ 140737488355328) (hn63 : n + m ≤ 9223372036854775807) (hbase : base ≤ w.heap.size)
    (h : ∀ A' c' w', w'.ownsRow base e 1 (.slice A' (n + m) c') (n + m) (xs ++ l.map (Value.int .i64)) → n + m ≤ c' → c' ≤ maxLen → w.grownBy w' v.ownBlock →
      K (a.put o.dst (.slice A' (n + m) c')) w') : o.wp P a w K Q := by
  subst hm
  obtain ⟨i, hi, hz0, hz1, hz2⟩ := info_parts hinfo
  have hnews : ∀ (j : Nat) (u : Value), (l.map (Value.int .i64))[j]? = some u → w.cell? (ad.add j) = some u := by
    intro j u hj
    have hjl : j < l.length := by
      rcases Nat.lt_or_ge j l.length with h1 | h1
      · exact h1
      · rw [List.getElem?_eq_none (by simpa using h1)] at hj; cases hj
    obtain ⟨b, off, e1, _, hc⟩ := hI j hjl
    injection e1 with e1
    subst e1
    have e2 : ((⟨b, off, none⟩ : Addr).add j) = ⟨b, off + j, none⟩ := by
      unfold Addr.add
      split
      · rename_i h0; subst h0; rfl
      · rfl
    rw [e2, hc]
    rw [List.getElem?_map, List.getElem?_eq_getElem hjl] at hj
    rw [List.getD_eq_getElem?_getD, List.getElem?_eq_getElem hjl]
    exact hj
  obtain ⟨v', w', hr, h2, h3, h4, h5⟩ := run_append_own_at (P := P) w base t o.type e i z 1 bytes ht hi hz0 hz1 hz2 hz (by decide) v n xs hown ad l.length c (l.map (Value.int .i64)) (by simp) hnews (ints_oneCell _ _)
    (by unfold maxLen; omega) hbytes hbase
  unfold Oper.wp execOp
  simp only [ho, resolve, invoke, builtin, Sem.run_bind, Sem.run_pure, Result.andThen_ok, List.map_toArray, List.map_cons, List.map_nil, hs, hx, hr]
  obtain ⟨A', c', rfl, hc1, hc2⟩ := own_slice h2
  exact h A' c' w' h2 hc1 hc2 h3
theorem wp_callv2 (fid : FuncId) (cap : Array Value) (f x y : Operand) (v1 v2 : Value) (ts : Array TypeId) (ho : o.op = .call { callee := .value f, args := #[x, y], argTypes := ts })
    (hf : a.eval f = .func (.func fid) #[] cap) (hx : a.eval x = v1) (hy : a.eval y = v2) (hgo : Goes P fid)
    (h : Calls P fid (#[v1, v2] ++ cap) w fun e w'' => ∃ v, e = .returned v ∧ K (a.put o.dst v) w'') : o.wp P a w K Q := by
  have hg := hgo (#[v1, v2] ++ cap) w
  unfold Oper.wp execOp
  simp only [ho, resolve, Deferred.ofValue, invoke, hf, Sem.run_bind, Sem.run_pure, Result.andThen_ok, List.map_toArray, List.map_cons, List.map_nil, hx, hy, Array.empty_append, hg, Oper.upon]
  refine h.mono ?_
  rintro e w'' ⟨v, rfl, hw⟩
  exact hw
theorem wpList_callv2 (fid : FuncId) (cap : Array Value) (f x y : Operand) (v1 v2 : Value) (ts : Array TypeId) (ho : o.op = .call { callee := .value f, args := #[x, y], argTypes := ts }) (hgd : o.guard = none)
    (hf : a.eval f = .func (.func fid) #[] cap) (hx : a.eval x = v1) (hy : a.eval y = v2) (hgo : Goes P fid)
    (h : Calls P fid (#[v1, v2] ++ cap) w fun e w'' => ∃ v, e = .returned v ∧ wpList P ops Q rest (a.put o.dst v) w'') : wpList P ops Q (o :: rest) a w :=
  wpList_plain hgd fun K hK => wp_callv2 fid cap f x y v1 v2 ts ho hf hx hy hgo (h.mono fun e w'' ⟨v, h1, h2⟩ => ⟨v, h1, hK _ _ h2⟩)
end
end Go.Proofs.Ytiadineakhcclaa

/-
  cmp.Compare of ints; the comparison by Due.
-/
namespace Go.Proofs.Ytiadineakhcclaa
open Go.RowKit
set_option linter.unusedVariables false
set_option linter.unusedSimpArgs false

def cmpI (x y : Int) : Int := if x < y then -1 else if y < x then 1 else 0
theorem cmpI_neg {x y : Int} : cmpI x y < 0 ↔ x < y := by
  unfold cmpI; split
  · omega
  · split <;> omega
theorem isNaN_any (x : Int) (w : World) : Calls Try.prog 93 #[.int .i64 x] w fun e w' => e = .returned (.bool false) ∧ w = w' := by
  have h : (x != x) = false := by simp
  go_enter Try.func93, Try.ntmps93
  go_wp2
  go_ret
  exact ⟨rfl, rfl⟩
set_option maxHeartbeats 800000 in
theorem compare_any (x y : Int) (w : World) : Calls Try.prog 92 #[.int .i64 x, .int .i64 y] w fun e w' => e = .returned (.int .i64 (cmpI x y)) ∧ w = w' := by
  have HNX := hide (fun w => isNaN_any x w)
  have HNY := hide (fun w => isNaN_any y w)
  by_cases h1 : x < y
  · have e : cmpI x y = -1 := if_pos h1
    rw [e]
    have d1 : decide (x < y) = true := decide_eq_true h1
    clear e
    go_enter Try.func92, Try.ntmps92
    go_wp2_with (first
      | (go_at_call 93; (with_reducible refine (HNX.out _).mono ?_); rintro e w' ⟨rfl, rfl⟩)
      | (go_at_call 93; (with_reducible refine (HNY.out _).mono ?_); rintro e w' ⟨rfl, rfl⟩))
    go_ret
    exact ⟨rfl, rfl⟩
  · have d1 : decide (x < y) = false := decide_eq_false h1
    by_cases h2 : y < x
    · have e : cmpI x y = 1 := by rw [cmpI, if_neg h1, if_pos h2]
      rw [e]
      have d2 : decide (y < x) = true := decide_eq_true h2
      clear e
      go_enter Try.func92, Try.ntmps92
      go_wp2_with (first
        | (go_at_call 93; (with_reducible refine (HNX.out _).mono ?_); rintro e w' ⟨rfl, rfl⟩)
        | (go_at_call 93; (with_reducible refine (HNY.out _).mono ?_); rintro e w' ⟨rfl, rfl⟩))
      go_ret
      exact ⟨rfl, rfl⟩
    · have e : cmpI x y = 0 := by rw [cmpI, if_neg h1, if_neg h2]
      rw [e]
      have d2 : decide (y < x) = false := decide_eq_false h2
      clear e
      go_enter Try.func92, Try.ntmps92
      go_wp2_with (first
        | (go_at_call 93; (with_reducible refine (HNX.out _).mono ?_); rintro e w' ⟨rfl, rfl⟩)
        | (go_at_call 93; (with_reducible refine (HNY.out _).mono ?_); rintro e w' ⟨rfl, rfl⟩))
      go_ret
      exact ⟨rfl, rfl⟩

theorem goes_due : Goes Try.prog 91 := goes_of Try.func91 (by kernel_rfl) (by kernel_rfl)
set_option maxHeartbeats 800000 in
theorem due1_any (A : Option Addr) (n c bb : Nat) (L : List J4) (a b : Nat) (w : World) (hn : L.length = n) (hlen : n ≤ 8) (ha : a < n) (hb : b < n) (hA : JobsA w w.heap.size A L) (hc : w.cell? ⟨bb, 0, none⟩ = some (.slice A n c)) :
    Calls Try.prog 91 (#[.int .i64 (a : Nat), .int .i64 (b : Nat)] ++ #[.pointer (some ⟨bb, 0, none⟩)]) w fun e w' => e = .returned (.int .i64 (cmpI (L.getD a j0).d (L.getD b j0).d)) ∧ ∃ m, w' = w.drewN m := by
  obtain ⟨q, o, t1, r1, d1, u1, rfl, hb1, ha0, ha1, ha2, ha3, hx1⟩ := hA.at_ (k := a) (by omega)
  obtain ⟨q', o', t2, r2, d2, u2, e, hb2, hc0, hc1, hc2, hc3, hx2⟩ := hA.at_ (k := b) (by omega)
  injection e with e; injection e with e1 e2
  subst e1; subst e2
  rw [hx1.out, hx2.out]
  show Calls _ _ _ _ fun e w' => e = .returned (.int .i64 (cmpI d1 d2)) ∧ ∃ m, w' = w.drewN m
  have h1 : (a : Int) < (n : Int) := by omega
  have h2 : (b : Int) < (n : Int) := by omega
  have HCO := hide (fun w' => (compare_any d1 d2 w').mono fun _ _ h => (⟨h.1, h.2.symm⟩ : _ ∧ _))
  clear hA hx1 hx2 hn ha0 ha1 ha3 hc0 hc1 hc3
  go_enter Try.func91, Try.ntmps91
  go_wp2
  go_quiet ((go_at_call 92; exact Calls.quiet_of_same (HCO.out _)))
  go_wp2
  go_ret
  exact ⟨rfl, _, rfl⟩
end Go.Proofs.Ytiadineakhcclaa

/-
  Insertion (plain): rows of a block, sorted so far.
-/
namespace Go.Proofs.Ytiadineakhcclaa
open Go.RowKit Go.Deep
set_option linter.unusedVariables false
set_option linter.unusedSimpArgs false

/-- Block g holds at its first n places what f says. -/
def RowF (w : World) (g n : Nat) (f : Nat → Value) : Prop := ∃ cs t, w.heap[g]? = some (.cells cs t (0, 0)) ∧ ∀ k, k < n → cs[k]? = some (f k)
theorem RowF.cell {w : World} {g n k : Nat} {f : Nat → Value} (h : RowF w g n f) (hk : k < n) : w.cell? ⟨g, k, none⟩ = some (f k) := by
  obtain ⟨cs, t, h1, h2⟩ := h
  rw [blk_cell h1, h2 k hk]
theorem RowF.free {w : World} {g n : Nat} {f : Nat → Value} (h : RowF w g n f) (k : Nat) : w.frozen? ⟨g, k, none⟩ = false := by
  obtain ⟨cs, t, h1, h2⟩ := h
  exact blk_free h1 k
theorem RowF.lt {w : World} {g n : Nat} {f : Nat → Value} (h : RowF w g n f) : g < w.heap.size := by
  obtain ⟨cs, t, h1, h2⟩ := h
  exact lt_of_block h1
theorem RowF.set {w : World} {g n i : Nat} {f : Nat → Value} (h : RowF w g n f) (hi : i < n) (v : Value) : RowF (w.setCell ⟨g, i, none⟩ v) g n (fun k => if k = i then v else f k) := by
  obtain ⟨cs, t, h1, h2⟩ := h
  refine ⟨cs.setIfInBounds i v, t, blk_set h1 i v, fun k hk => ?_⟩
  have hs : i < cs.size := by
    have := h2 i hi
    exact (Array.getElem?_eq_some_iff.1 this).1
  rw [Array.getElem?_setIfInBounds]
  by_cases e : k = i
  · subst e; rw [if_pos rfl, if_pos hs]; show _ = some (if k = k then v else f k); rw [if_pos rfl]
  · rw [if_neg (fun h => e h.symm)]; show _ = some (if k = i then v else f k); rw [if_neg e]; exact h2 k hk
theorem RowF.congr {w : World} {g n : Nat} {f f' : Nat → Value} (h : RowF w g n f) (e : ∀ k, k < n → f k = f' k) : RowF w g n f' := by
  obtain ⟨cs, t, h1, h2⟩ := h
  exact ⟨cs, t, h1, fun k hk => by rw [h2 k hk, e k hk]⟩
theorem RowF.of_block {w w' : World} {g n : Nat} {f : Nat → Value} (h : RowF w g n f) (e : w'.heap[g]? = w.heap[g]?) : RowF w' g n f := by
  obtain ⟨cs, t, h1, h2⟩ := h
  exact ⟨cs, t, e.trans h1, h2⟩

theorem grown_set {w w1 : World} {g : Nat} (h : w.grownBy w1 (some g)) (i : Nat) (v : Value) : w.grownBy (w1.setCell ⟨g, i, none⟩ v) (some g) :=
  ⟨h.os, h.tape, h.output, by simp; exact h.size, fun k hk hne => (blk_far v (fun e => hne (by rw [e]))).trans (h.block k hk hne)⟩

/-! Insertion. -/
/-- Before b: by key, then by number. -/
def ltK (key : Nat → Int) (a b : Nat) : Prop := key a < key b ∨ key a = key b ∧ a < b
/-- The row s, its i-th taken to place j. -/
def movF (s : Nat → Nat) (i j k : Nat) : Nat := if k < j then s k else if k = j then s i else if k ≤ i then s (k - 1) else s k
structure Sorted0 (key : Nat → Int) (s0 s : Nat → Nat) (n i : Nat) : Prop where
  le : i ≤ n
  low : ∀ k, k < i → ∃ m, m < i ∧ s k = s0 m
  high : ∀ k, i ≤ k → k < n → s k = s0 k
  sorted : ∀ a b, a < b → b < i → ltK key (s a) (s b)
theorem Sorted0.next {key : Nat → Int} {s0 s : Nat → Nat} {n i j : Nat} (h : Sorted0 key s0 s n i) (hi : i < n) (hasc : ∀ a b, a < b → b < n → s0 a < s0 b) (hj : j ≤ i) (hgt : ∀ k, j ≤ k → k < i → key (s i) < key (s k)) (hle : j = 0 ∨ key (s (j - 1)) ≤ key (s i)) :
    Sorted0 key s0 (movF s i j) n (i + 1) := by
  have hsi : s i = s0 i := h.high i (Nat.le_refl _) hi
  refine ⟨hi, fun k hk => ?_, fun k hk hkn => ?_, fun a b hab hb => ?_⟩
  · unfold movF
    by_cases e1 : k < j
    · rw [if_pos e1]
      obtain ⟨m, hm, e⟩ := h.low k (by omega)
      exact ⟨m, by omega, e⟩
    · rw [if_neg e1]
      by_cases e2 : k = j
      · rw [if_pos e2]; exact ⟨i, by omega, hsi⟩
      · rw [if_neg e2, if_pos (by omega)]
        obtain ⟨m, hm, e⟩ := h.low (k - 1) (by omega)
        exact ⟨m, by omega, e⟩
  · unfold movF
    rw [if_neg (by omega), if_neg (by omega), if_neg (by omega)]
    exact h.high k (by omega) hkn
  · have hval : ∀ k, k < i → s k < s i := fun k hk => by
      obtain ⟨m, hm, e⟩ := h.low k hk
      rw [e, hsi]; exact hasc m i hm hi
    unfold movF
    by_cases ha : a < j
    · rw [if_pos ha]
      by_cases hb1 : b < j
      · rw [if_pos hb1]; exact h.sorted a b hab (by omega)
      · rw [if_neg hb1]
        by_cases hb2 : b = j
        · rw [if_pos hb2]
          rcases hle with hle | hle
          · omega
          · have h1 : key (s a) ≤ key (s (j - 1)) := by
              by_cases e : a = j - 1
              · subst e; exact Int.le_refl _
              · rcases h.sorted a (j - 1) (by omega) (by omega) with h2 | h2
                · omega
                · omega
            have h2 := hval a (by omega)
            by_cases h3 : key (s a) < key (s i)
            · exact .inl h3
            · exact .inr ⟨by omega, h2⟩
        · rw [if_neg hb2, if_pos (by omega)]
          exact h.sorted a (b - 1) (by omega) (by omega)
    · rw [if_neg ha, if_neg (show ¬ b < j by omega), if_neg (show ¬ b = j by omega)]
      rw [if_pos (show b ≤ i by omega)]
      by_cases ha2 : a = j
      · rw [if_pos ha2]
        exact .inl (hgt (b - 1) (by omega) (by omega))
      · rw [if_neg ha2, if_pos (show a ≤ i by omega)]
        exact h.sorted (a - 1) (b - 1) (by omega) (by omega)
theorem movF_self (s : Nat → Nat) (i k : Nat) : movF s i i k = s k := by
  unfold movF
  by_cases h1 : k < i
  · rw [if_pos h1]
  · rw [if_neg h1]
    by_cases h2 : k = i
    · rw [if_pos h2, h2]
    · rw [if_neg h2, if_neg (by omega)]
theorem movF_swap (s : Nat → Nat) (i j k : Nat) (hj : j + 1 ≤ i) : (if k = j then movF s i (j + 1) (j + 1) else if k = j + 1 then movF s i (j + 1) j else movF s i (j + 1) k) = movF s i j k := by
  unfold movF
  rw [if_neg (show ¬ j + 1 < j + 1 by omega), if_pos rfl, if_pos (show j < j + 1 by omega)]
  by_cases h1 : k = j
  · rw [if_pos h1, if_neg (by omega), if_pos h1]
  · rw [if_neg h1]
    by_cases h2 : k = j + 1
    · rw [if_pos h2, if_neg (show ¬ k < j by omega), if_neg h1, if_pos (show k ≤ i by omega), h2]; rfl
    · rw [if_neg h2]
      by_cases h3 : k < j
      · rw [if_pos (show k < j + 1 by omega), if_pos h3]
      · rw [if_neg (show ¬ k < j + 1 by omega), if_neg h2, if_neg h3, if_neg h1]

/-- Block g, of c cells of type t, holds at its first n places what f says. -/
def RowO (w : World) (g n c : Nat) (t : TypeId) (f : Nat → Value) : Prop := ∃ cs, w.heap[g]? = some (.cells cs t (0, 0)) ∧ cs.size = c ∧ ∀ k, k < n → cs[k]? = some (f k)
section
variable {w w' : World} {g n c i k : Nat} {t : TypeId} {f f' : Nat → Value}
theorem RowO.row (h : RowO w g n c t f) : RowF w g n f := let ⟨cs, h1, _, h3⟩ := h; ⟨cs, t, h1, h3⟩
theorem RowO.cell (h : RowO w g n c t f) (hk : k < n) : w.cell? ⟨g, k, none⟩ = some (f k) := h.row.cell hk
theorem RowO.free (h : RowO w g n c t f) (k : Nat) : w.frozen? ⟨g, k, none⟩ = false := h.row.free k
theorem RowO.lt (h : RowO w g n c t f) : g < w.heap.size := h.row.lt
theorem RowO.set (h : RowO w g n c t f) (hi : i < n) (v : Value) : RowO (w.setCell ⟨g, i, none⟩ v) g n c t (fun k => if k = i then v else f k) := by
  obtain ⟨cs, h1, hc, h2⟩ := h
  refine ⟨cs.setIfInBounds i v, blk_set h1 i v, by simpa using hc, fun k hk => ?_⟩
  have hs : i < cs.size := by
    have := h2 i hi
    exact (Array.getElem?_eq_some_iff.1 this).1
  rw [Array.getElem?_setIfInBounds]
  by_cases e : k = i
  · subst e; rw [if_pos rfl, if_pos hs]; show _ = some (if k = k then v else f k); rw [if_pos rfl]
  · rw [if_neg (fun h => e h.symm)]; show _ = some (if k = i then v else f k); rw [if_neg e]; exact h2 k hk
theorem RowO.congr (h : RowO w g n c t f) (e : ∀ k, k < n → f k = f' k) : RowO w g n c t f' := by
  obtain ⟨cs, h1, hc, h2⟩ := h
  exact ⟨cs, h1, hc, fun k hk => by rw [h2 k hk, e k hk]⟩
theorem RowO.of_block (h : RowO w g n c t f) (e : w'.heap[g]? = w.heap[g]?) : RowO w' g n c t f := by
  obtain ⟨cs, h1, h2⟩ := h
  exact ⟨cs, e.trans h1, h2⟩
theorem rowO_own {base : Nat} {l : List Int} (h : w.ownsRow base t 1 (.slice (some ⟨g, 0, none⟩) n c) n (l.map (Value.int .i64))) : RowO w g n c t (fun k => .int .i64 (l.getD k 0)) := by
  have hl : l.length = n := by have := h.1; simpa using this
  rcases h.2 with ⟨hv, _⟩ | ⟨g', cap, cur, hv, hg, hh, h1, h2, h3, h4⟩
  · cases hv
  · injection hv with e1 _ e2; injection e1 with e1; injection e1 with e1
    subst e1; subst e2
    refine ⟨cur, hh, by simpa using h3, fun k hk => ?_⟩
    have h5 : (cur.toList.take (n * 1))[k]? = (l.map (Value.int .i64))[k]? := by rw [h4]
    rw [List.getElem?_take, if_pos (by omega), Array.getElem?_toList, List.getElem?_map] at h5
    rw [h5, List.getElem?_eq_getElem (by omega)]
    show some (Value.int .i64 _) = some (Value.int .i64 (l.getD k 0))
    rw [List.getD_eq_getElem?_getD, List.getElem?_eq_getElem (by omega)]; rfl
/-- The own row after its cells were changed. -/
theorem RowO.own {base : Nat} {xs : List Value} (h0 : w.ownsRow base t 1 (.slice (some ⟨g, 0, none⟩) n c) n xs) (h : RowO w' g n c t f) : w'.ownsRow base t 1 (.slice (some ⟨g, 0, none⟩) n c) n ((List.range n).map f) := by
  rcases h0.2 with ⟨hv, _⟩ | ⟨g', cap, cur, hv, hg, hh, h1, h2, h3, h4⟩
  · cases hv
  · injection hv with e1 _ e2; injection e1 with e1; injection e1 with e1
    subst e1; subst e2
    obtain ⟨cs, k1, k2, k3⟩ := h
    refine ⟨by simp, .inr ⟨g, c, cs, rfl, hg, k1, h1, h2, by simpa using k2, ?_⟩⟩
    apply List.ext_getElem?
    intro i
    rw [List.getElem?_take, Array.getElem?_toList, List.getElem?_map]
    by_cases hi : i < n
    · rw [if_pos (by omega), k3 i hi, List.getElem?_range hi]; rfl
    · rw [if_neg (by omega), List.getElem?_eq_none (by simp; omega)]; rfl
end
end Go.Proofs.Ytiadineakhcclaa

/-
  slices.SortStableFunc by Due, of at most 20 places: plain insertion.
-/
namespace Go.Proofs.Ytiadineakhcclaa
open Go.RowKit Go.Deep
set_option linter.unusedVariables false
set_option linter.unusedSimpArgs false

def SortPost (key : Nat → Int) (s0 : Nat → Nat) (n g : Nat) (w : World) (e : Ending) (w' : World) : Prop :=
  ∃ s : Nat → Nat, Sorted0 key s0 s n n ∧ RowF w' g n (fun k => .int .i64 (s k : Nat)) ∧ w.grownBy w' (some g) ∧ e = .returned (.tuple #[])
set_option maxRecDepth 100000 in
set_option maxHeartbeats 1600000 in
theorem insertion_due (A : Option Addr) (m ac bb g n c : Nat) (L : List J4) (s0 : Nat → Nat) (w : World) (hm : L.length = m) (hm8 : m ≤ 8) (hn8 : n ≤ 8) (hlow : ∀ k, k < n → s0 k < m) (hasc : ∀ a b, a < b → b < n → s0 a < s0 b) (hA : JobsA w w.heap.size A L)
    (hAg : ∀ b o, A = some ⟨b, o, none⟩ → b ≠ g) (hbg : bb ≠ g) (hc : w.cell? ⟨bb, 0, none⟩ = some (.slice A m ac)) (hR : RowF w g n (fun k => .int .i64 (s0 k : Nat))) :
    Calls Try.prog 82 #[.slice (some ⟨g, 0, none⟩) n c, .int .i64 0, .int .i64 (n : Nat), .func (.func 91) #[] #[.pointer (some ⟨bb, 0, none⟩)]] w (SortPost (fun a => (L.getD a j0).d) s0 n g w) := by
  have HR := hide hR
  have HLOW := hide hlow
  have HASC := hide hasc
  have hbl : bb < w.heap.size := cell_lt hc
  have HCM : Hid (∀ (w' : World) (a b : Nat), w.grownBy w' (some g) → a < m → b < m → Calls Try.prog 91 (#[.int .i64 (a : Nat), .int .i64 (b : Nat)] ++ #[.pointer (some ⟨bb, 0, none⟩)]) w' fun e w'' => e = .returned (.int .i64 (cmpI (L.getD a j0).d (L.getD b j0).d)) ∧ ∃ q, w'' = w'.drewN q) := fun w' a b hg ha hb => by
    refine due1_any A m ac bb L a b w' hm hm8 ha hb (fun i hi => ?_) (hg.cell hc (fun e => hbg (Option.some.inj e)))
    obtain ⟨b1, o1, e1, h1, h2, h3, h4, h5⟩ := hA i hi
    have hne : ∀ x, some (⟨b1, x, none⟩ : Addr).block ≠ some g := fun x e => hAg b1 o1 e1 (Option.some.inj e)
    exact ⟨b1, o1, e1, Nat.lt_of_lt_of_le h1 hg.size, hg.cell h2 (hne _), hg.cell h3 (hne _), hg.cell h4 (hne _), hg.cell h5 (hne _)⟩
  have HG0 : Hid (w.grownBy w (some g)) := ⟨rfl, rfl, rfl, Nat.le_refl _, fun _ _ _ => rfl⟩
  have HS0 : Hid (n = 0 ∨ Sorted0 (fun a => (L.getD a j0).d) s0 s0 n 1) := by
    by_cases e : n = 0
    · exact .inl e
    · exact .inr ⟨by omega, fun k hk => ⟨k, hk, rfl⟩, fun k _ _ => rfl, fun a b h1 h2 => by omega⟩
  clear hm hlow hasc hA hAg hbg hc hR
  go_enter Try.func82, Try.ntmps82
  go_wp2
  go_loopw [8] (fun v8 wr => ∃ (i : Nat) (s : Nat → Nat), 1 ≤ i ∧ (i ≤ n ∨ i = 1 ∧ n = 0) ∧ v8 = .int .i64 i ∧ Hid (n = 0 ∨ Sorted0 (fun a => (L.getD a j0).d) s0 s n i) ∧ Hid (RowF wr g n (fun k => .int .i64 (s k : Nat))) ∧ Hid (w.grownBy wr (some g))) (fun v8 _ => n + 1 - (intOf v8).toNat)
  case atStart => exact ⟨1, s0, Nat.le_refl _, by omega, rfl, HS0, HR, HG0⟩
  case round =>
    obtain ⟨i, s, hi1, hi2, rfl, HS, HRi, HG⟩ := hrel
    obtain ⟨w1, rfl⟩ : ∃ w1 : World, w1 = wr := ⟨_, rfl⟩
    by_cases hlt : i < n
    · have hin : (i : Int) < (n : Int) := by omega
      have HSI : Hid (Sorted0 (fun a => (L.getD a j0).d) s0 s n i) := by rcases HS.out with h | h; omega; exact h
      have HRS : Hid (RowF w1 g n (fun k => .int .i64 (movF s i i k : Nat))) := HRi.out.congr fun k hk => by rw [movF_self]
      go_wp2
      go_loopw [9] (fun v9 wr => ∃ j : Nat, j ≤ i ∧ v9 = .int .i64 j ∧ Hid (∀ k, j ≤ k → k < i → (L.getD (s i) j0).d < (L.getD (s k) j0).d) ∧ Hid (RowF wr g n (fun k => .int .i64 (movF s i j k : Nat))) ∧ Hid (w.grownBy wr (some g))) (fun v9 _ => (intOf v9).toNat)
      case atStart => exact ⟨i, Nat.le_refl _, rfl, fun k h1 h2 => by omega, HRS, HG⟩
      case round =>
        obtain ⟨j, hj, rfl, HGT, HRj, HGj⟩ := hrel
        obtain ⟨w2, rfl⟩ : ∃ w2 : World, w2 = wr := ⟨_, rfl⟩
        have HGD : Hid (∀ q, w.grownBy (w2.drewN q) (some g)) := fun q => ⟨HGj.out.os, HGj.out.tape, HGj.out.output, HGj.out.size, HGj.out.block⟩
        by_cases hj0 : j = 0
        · have hjd : decide ((0 : Int) < (j : Int)) = false := decide_eq_false (by omega)
          have hjd2 : decide (0 < j) = false := decide_eq_false (by omega)
          have HNX : Hid (n = 0 ∨ Sorted0 (fun a => (L.getD a j0).d) s0 (movF s i j) n (i + 1)) := .inr (HSI.out.next hlt HASC.out hj HGT.out (.inl hj0))
          clear hj0
          go_wp2
          go_quiet (fail)
          go_wp2
          go_roundw
          case rel => exact ⟨i + 1, movF s i j, by omega, by omega, by go_num, HNX, hide (HRj.out.of_block (w' := w2.drewN _) rfl), hide (HGD.out _)⟩
          case measure => simp [intOf] <;> omega
        · obtain ⟨j1, hja, hjb⟩ : ∃ j1, j ≤ j1 + 1 ∧ j1 + 1 ≤ j := ⟨j - 1, by omega, by omega⟩
          have hjd : decide ((0 : Int) < (j : Int)) = true := decide_eq_true (by omega)
          have hjd2 : decide (0 < j) = true := decide_eq_true (by omega)
          have hjd3 : 0 < j := by omega
          have hjn : (j : Int) < (n : Int) := by omega
          have hj1n : (j1 : Int) < (n : Int) := by omega
          obtain ⟨x, hx⟩ : ∃ x, s i = x := ⟨_, rfl⟩
          obtain ⟨y, hy⟩ : ∃ y, s j1 = y := ⟨_, rfl⟩
          have hc1 : w2.cell? ⟨g, j, none⟩ = some (.int .i64 (x : Nat)) := by
            have h9 := HRj.out.cell (k := j) (by omega)
            rw [h9]
            show some (Value.int .i64 ((movF s i j j : Nat) : Int)) = _
            unfold movF
            rw [if_neg (Nat.lt_irrefl _), if_pos rfl, hx]
          have hc2 : w2.cell? ⟨g, j1, none⟩ = some (.int .i64 (y : Nat)) := by
            have h9 := HRj.out.cell (k := j1) (by omega)
            rw [h9]
            show some (Value.int .i64 ((movF s i j j1 : Nat) : Int)) = _
            unfold movF
            rw [if_pos (by omega), hy]
          have hf1 := HRj.out.free j
          have hf2 := HRj.out.free j1
          have hgl := HRj.out.lt
          have hxm : x < m := by rw [← hx, HSI.out.high i (Nat.le_refl _) hlt]; exact HLOW.out i hlt
          have hym : y < m := by
            obtain ⟨q, hq, e⟩ := HSI.out.low j1 (by omega)
            rw [← hy, e]; exact HLOW.out q (by omega)
          have HC2 := hide (fun q => HCM.out (w2.drewN q) x y (HGD.out q) hxm hym)
          obtain ⟨cv, hcv⟩ : ∃ cv, cmpI (L.getD x j0).d (L.getD y j0).d = cv := ⟨_, rfl⟩
          have HCV : Hid (cv < 0 ↔ (L.getD x j0).d < (L.getD y j0).d) := by rw [← hcv]; exact cmpI_neg
          rw [hcv] at HC2
          have HX := hide hx
          have HY := hide hy
          clear hcv hx hy hj0
          by_cases hq : cv < 0
          · have hqd : decide (cv < 0) = true := decide_eq_true hq
            have HGT2 : Hid (∀ k, j1 ≤ k → k < i → (L.getD (s i) j0).d < (L.getD (s k) j0).d) := fun k h1 h2 => by
              by_cases e : k = j1
              · subst e; rw [HX.out, HY.out]; exact HCV.out.1 hq
              · exact HGT.out k (by omega) h2
            clear hq
            have hs4 : IntKind.i64.wrap ((j : Int) - 1) = (j1 : Int) := by rw [IntKind.wrap_i64]; omega
            go_wp2
            go_quiet ((go_at_call 91; exact Calls.quiet_of (HC2.out _)))
            go_wp2
            go_region
            go_wp2
            clear hs4
            go_roundw
            case rel =>
              refine ⟨j1, by omega, by congr 1, HGT2, hide ((((HRj.out.of_block (w' := w2.drewN _) rfl).set (i := j) (by omega) (.int .i64 (y : Nat))).set (i := j1) (by omega) (.int .i64 (x : Nat))).congr fun k hk => ?_), hide ?_⟩
              · have hjj : j = j1 + 1 := by omega
                have h9 := movF_swap s i j1 k (by omega)
                have h10 : movF s i (j1 + 1) (j1 + 1) = x := by unfold movF; rw [if_neg (Nat.lt_irrefl _), if_pos rfl]; exact HX.out
                have h11 : movF s i (j1 + 1) j1 = y := by unfold movF; rw [if_pos (by omega)]; exact HY.out
                rw [h10, h11] at h9
                show (if k = j1 then Value.int .i64 (x : Nat) else if k = j then Value.int .i64 (y : Nat) else Value.int .i64 (movF s i j k : Nat)) = Value.int .i64 (movF s i j1 k : Nat)
                rw [← h9, hjj]
                by_cases e1 : k = j1
                · rw [if_pos e1, if_pos e1]
                · rw [if_neg e1, if_neg e1]
                  by_cases e2 : k = j1 + 1
                  · rw [if_pos e2, if_pos e2]
                  · rw [if_neg e2, if_neg e2]
              · exact grown_set (grown_set (HGD.out _) _ _) _ _
            case measure => simp [intOf] <;> omega
          · have hqd : decide (cv < 0) = false := decide_eq_false hq
            have HNX : Hid (n = 0 ∨ Sorted0 (fun a => (L.getD a j0).d) s0 (movF s i j) n (i + 1)) := .inr (HSI.out.next hlt HASC.out hj HGT.out (.inr (by
              have h9 : ¬ (L.getD x j0).d < (L.getD y j0).d := fun h => hq (HCV.out.2 h)
              show (L.getD (s (j - 1)) j0).d ≤ (L.getD (s i) j0).d
              rw [show j - 1 = j1 by omega, HX.out, HY.out]
              omega)))
            clear hq
            have hs4 : IntKind.i64.wrap ((j : Int) - 1) = (j1 : Int) := by rw [IntKind.wrap_i64]; omega
            go_wp2
            go_quiet ((go_at_call 91; exact Calls.quiet_of (HC2.out _)))
            go_wp2
            clear hs4
            go_roundw
            case rel => exact ⟨i + 1, movF s i j, by omega, by omega, by go_num, HNX, hide (HRj.out.of_block (w' := w2.drewN _) rfl), hide (HGD.out _)⟩
            case measure => simp [intOf] <;> omega
    · have HSN : Hid (Sorted0 (fun a => (L.getD a j0).d) s0 s n n) := by
        rcases HS.out with h | h
        · subst h; exact ⟨Nat.le_refl _, fun k hk => by omega, fun k _ hk => by omega, fun a b _ hb => by omega⟩
        · obtain rfl : i = n := by have := h.le; omega
          exact h
      have hnl : ¬ (i : Int) < (n : Int) := by omega
      go_wp2
      go_end0
      exact ⟨s, HSN.out, HRi.out, HG.out, rfl⟩
end Go.Proofs.Ytiadineakhcclaa

/-
  stableCmpFunc, SortStableFunc by Due; byDue.
-/
namespace Go.Proofs.Ytiadineakhcclaa
open Go.RowKit Go.Deep
set_option linter.unusedVariables false
set_option linter.unusedSimpArgs false

set_option maxHeartbeats 1600000 in
theorem stable_due (A : Option Addr) (m ac bb g n c : Nat) (L : List J4) (s0 : Nat → Nat) (w : World) (hm : L.length = m) (hm8 : m ≤ 8) (hn8 : n ≤ 8) (hlow : ∀ k, k < n → s0 k < m) (hasc : ∀ a b, a < b → b < n → s0 a < s0 b) (hA : JobsA w w.heap.size A L)
    (hAg : ∀ b o, A = some ⟨b, o, none⟩ → b ≠ g) (hbg : bb ≠ g) (hc : w.cell? ⟨bb, 0, none⟩ = some (.slice A m ac)) (hR : RowF w g n (fun k => .int .i64 (s0 k : Nat))) :
    Calls Try.prog 70 #[.slice (some ⟨g, 0, none⟩) n c, .int .i64 (n : Nat), .func (.func 91) #[] #[.pointer (some ⟨bb, 0, none⟩)]] w (SortPost (fun a => (L.getD a j0).d) s0 n g w) := by
  have HI := hide (insertion_due A m ac bb g n c L s0 w hm hm8 hn8 hlow hasc hA hAg hbg hc hR)
  have d1 : decide ((20 : Int) ≤ (n : Int)) = false := decide_eq_false (by omega)
  have d2 : decide ((20 : Int) < (n : Int)) = false := decide_eq_false (by omega)
  have d3 : decide (20 ≤ n) = false := decide_eq_false (by omega)
  have d4 : decide (20 < n) = false := decide_eq_false (by omega)
  have h20 : n < 20 := by omega
  clear hlow hasc hA hAg hbg hc hR hm
  go_enter Try.func70, Try.ntmps70
  go_wp2
  go_loopw [7, 8] (fun v7 v8 wr => v7 = .int .i64 0 ∧ v8 = .int .i64 20 ∧ wr = w) (fun _ _ _ => 0)
  case atStart => exact ⟨rfl, rfl, rfl⟩
  case round =>
    obtain ⟨rfl, rfl, rfl⟩ := hrel
    go_wp2_with (go_at_call 82; refine (HI.out).mono ?_; rintro e w1 ⟨s, h1, h2, h3, rfl⟩; have H1 := hide h1; have H2 := hide h2; have H3 := hide h3; clear h1 h2 h3)
    go_loopw [6] (fun v6 wr => v6 = .int .i64 20 ∧ wr = w1) (fun _ _ => 0)
    case atStart => exact ⟨rfl, rfl⟩
    case round =>
      obtain ⟨rfl, rfl⟩ := hrel
      go_wp2
      go_end0
      exact ⟨s, H1.out, H2.out, H3.out, rfl⟩
set_option maxHeartbeats 1600000 in
theorem sortStable_due (A : Option Addr) (m ac bb g n c : Nat) (L : List J4) (s0 : Nat → Nat) (w : World) (hm : L.length = m) (hm8 : m ≤ 8) (hn8 : n ≤ 8) (hlow : ∀ k, k < n → s0 k < m) (hasc : ∀ a b, a < b → b < n → s0 a < s0 b) (hA : JobsA w w.heap.size A L)
    (hAg : ∀ b o, A = some ⟨b, o, none⟩ → b ≠ g) (hbg : bb ≠ g) (hc : w.cell? ⟨bb, 0, none⟩ = some (.slice A m ac)) (hR : RowF w g n (fun k => .int .i64 (s0 k : Nat))) :
    Calls Try.prog 45 #[.slice (some ⟨g, 0, none⟩) n c, .func (.func 91) #[] #[.pointer (some ⟨bb, 0, none⟩)]] w (SortPost (fun a => (L.getD a j0).d) s0 n g w) := by
  have HI := hide (stable_due A m ac bb g n c L s0 w hm hm8 hn8 hlow hasc hA hAg hbg hc hR)
  clear hlow hasc hA hAg hbg hc hR hm
  go_enter Try.func45, Try.ntmps45
  go_wp2_with (go_at_call 70; refine (HI.out).mono ?_; rintro e w1 ⟨s, h1, h2, h3, rfl⟩; have H1 := hide h1; have H2 := hide h2; have H3 := hide h3; clear h1 h2 h3)
  go_end0
  exact ⟨s, H1.out, H2.out, H3.out, rfl⟩

theorem rowF_own {w : World} {base g n c : Nat} {e : TypeId} {l : List Int} (h : w.ownsRow base e 1 (.slice (some ⟨g, 0, none⟩) n c) n (l.map (Value.int .i64))) : RowF w g n (fun k => .int .i64 (l.getD k 0)) := by
  have hl : l.length = n := by have := h.1; simpa using this
  rcases h.2 with ⟨hv, _⟩ | ⟨g', cap, cur, hv, hg, hh, h1, h2, h3, h4⟩
  · cases hv
  · injection hv with e1; injection e1 with e1; injection e1 with e1
    subst e1
    refine ⟨cur, e, hh, fun k hk => ?_⟩
    have h5 : (cur.toList.take (n * 1))[k]? = (l.map (Value.int .i64))[k]? := by rw [h4]
    rw [List.getElem?_take, if_pos (by omega), Array.getElem?_toList, List.getElem?_map] at h5
    rw [h5, List.getElem?_eq_getElem (by omega), getD_cons_of (d := 0) (by omega)]; rfl
theorem ints_rowF {w : World} {g n : Nat} {s : Nat → Nat} (h : RowF w g n (fun k => .int .i64 (s k : Nat))) : IntsA w w.heap.size (some ⟨g, 0, none⟩) (up ((List.range n).map s)) := fun i hi => by
  rw [up_length, List.length_map, List.length_range] at hi
  refine ⟨g, 0, rfl, h.lt, ?_⟩
  rw [Nat.zero_add, h.cell hi, up_getD]
  congr 3
  rw [List.getD_eq_getElem?_getD]; simp [hi]
/-- The order by Due. -/
def DuePost (n : Nat) (L : List J4) (w : World) (e : Ending) (w' : World) : Prop :=
  ∃ (s : Nat → Nat) (X : Option Addr) (c' : Nat), Sorted0 (fun a => (L.getD a j0).d) id s n n ∧ e = .returned (.slice X n c') ∧ n ≤ c' ∧ IntsA w' w'.heap.size X (up ((List.range n).map s)) ∧ Below w.heap.size w w'
set_option maxRecDepth 100000 in
set_option maxHeartbeats 1600000 in
theorem byDue_any (A : Option Addr) (n c : Nat) (L : List J4) (w : World) (hn : L.length = n) (hL : JobsOk L) (hA : JobsA w w.heap.size A L) :
    Calls Try.prog 89 #[.slice A n c] w (DuePost n L w) := by
  have h8 : n ≤ 8 := by rw [← hn]; exact hL.le
  have h1 : 1 ≤ n := by rw [← hn]; exact hL.pos
  have hmf : ∀ (fn : Fn) (first cap : Array Value) (w : World), (Instr.makeFunc fn first cap).run Try.prog w = .ok (.func fn first cap) w := fun _ _ _ _ => rfl
  obtain ⟨w0, hw0⟩ : ∃ w0, w0 = w.alloc (.cells #[.slice A n c] 88) := ⟨_, rfl⟩
  have hbx : w0.heap[w.heap.size]? = some (.cells #[.slice A n c] 88 (0, 0)) := by rw [hw0]; exact alloc_new _ _ _ rfl
  have HB01 : Hid (Below w.heap.size w w0) := by subst hw0; exact (Below.refl _ _).alloc (Nat.le_refl _) _
  have HQ : Hid (∀ w', Below w0.heap.size w0 w' → w'.cell? ⟨w.heap.size, 0, none⟩ = some (.slice A n c)) := fun w' hb => blk_cell ((hb.block _ (lt_of_block hbx)).trans hbx) 0
  have hw0l : w.heap.size < w0.heap.size := lt_of_block hbx
  have HAB : Hid (∀ b o, A = some ⟨b, o, none⟩ → b < w.heap.size) := fun b o e => by
    obtain ⟨b1, o1, e1, h2, _⟩ := hA 0 (by omega)
    rw [e] at e1
    injection e1 with e1; injection e1 with e2
    omega
  have HN := hide hn
  have HJ := hide (hA.next HB01.out)
  have HW0 := hide hw0
  have qq := HQ.out w0 (Below.refl _ _)
  clear hn hL hA hw0 hbx
  go_enter Try.func89, Try.ntmps89
  go_upto_region 1 with (fail)
  rw [← HW0.out]
  go_wp2
  go_loopw [3, 7] (fun v3 v7 wr => ∃ (k c' : Nat) (X : Option Addr), k ≤ n ∧ v7 = .int .i64 k ∧ v3 = .slice X k c' ∧ k ≤ c' ∧ Hid (wr.ownsRow w0.heap.size 3 1 (.slice X k c') k ((up (List.range k)).map (Value.int .i64))) ∧ Below w0.heap.size w0 wr) (fun _ v7 _ => n - (intOf v7).toNat)
  case atStart => exact ⟨0, 0, none, Nat.zero_le _, rfl, rfl, Nat.le_refl _, hide (World.ownsRow_nil _ _ _ _), Below.refl _ _⟩
  case round =>
    obtain ⟨k, c', X, hk, rfl, rfl, hkc, HO, hb⟩ := hrel
    have HB := hide hb
    obtain ⟨w1, rfl⟩ : ∃ w1 : World, w1 = wr := ⟨_, rfl⟩
    by_cases hlt : k < n
    · have hkn : (k : Int) < (n : Int) := by omega
      clear hb
      go_wp2_with (at_builtin; refine wpList_app1 (w0 := w1) _ _ 41 3 (.int .i64 0) 8 rfl rfl Try.underlying41 info_int rfl w0.heap.size (.slice X k c') k _ (.int .i64 (k : Nat)) rfl rfl rfl ⟨_, rfl⟩ HO.out rfl (by omega) (by omega) (by have := HB.out.size; omega) ?_; intro g2 cg w3 hown1 hd1 hd2 hg1 hgl2 hgrow; have HOW1 := hide hown1; have HG := hide hgrow; clear hown1 hgrow)
      go_roundw
      case rel =>
        refine ⟨k + 1, cg, some ⟨g2, 0, none⟩, by omega, by go_num, rfl, hd1, hide ?_, HB.out.grown HG.out HB.out.size (fun q hq => (own_lt HO.out q hq).1)⟩
        have e9 : (up (List.range (k + 1))).map (Value.int .i64) = (up (List.range k)).map (Value.int .i64) ++ [Value.int .i64 (k : Int)] := by simp [up, List.range_succ]
        rw [e9]; exact HOW1.out
      case measure => simp [intOf] <;> omega
    · obtain rfl : n = k := by omega
      obtain ⟨g, cc, hX, hg1, hg2, hg3, hg4⟩ := own_form HO.out (by omega)
      injection hX with hX1 _ hX2
      subst hX1; subst hX2
      have HR : Hid (RowF w1 g n (fun k => .int .i64 ((id k : Nat) : Int))) := (rowF_own HO.out).congr fun k hk => by
        rw [up_getD]; congr 2; rw [List.getD_eq_getElem?_getD]; simp [hk]
      have HS := hide (sortStable_due A n c w.heap.size g n c' L id w1 HN.out h8 h8 (fun k hk => hk) (fun a b h _ => h) (HJ.out.next hb) (fun b o e h => by have := HAB.out b o e; omega) (by omega) (HQ.out _ hb) HR.out)
      have qq1 := HQ.out _ hb
      clear hb
      go_wp2_with (go_at_call 45; refine (HS.out).mono ?_; rintro e w5 ⟨s, h1, h2, h3, rfl⟩; have H1 := hide h1; have H2 := hide h2; have H3 := hide h3; clear h1 h2 h3)
      go_ret
      exact ⟨s, some ⟨g, 0, none⟩, _, H1.out, rfl, hkc, ints_rowF H2.out, HB01.out.trans ((HB.out.grown H3.out HB.out.size (fun q hq => by injection hq with hq; omega)).mono HB01.out.size)⟩
end Go.Proofs.Ytiadineakhcclaa

/-
  dates (plain): a set that fits, along any sorted row and at once.
-/
namespace Go.Proofs.Ytiadineakhcclaa
open Go.RowKit
set_option linter.unusedVariables false
set_option linter.unusedSimpArgs false

/-- When the first k of the row s are done, those of S alone. -/
def nowF (L : List J4) (S : Nat) (s : Nat → Nat) : Nat → Int
  | 0 => 0
  | k + 1 => if S.testBit (s k) then nowF L S s k + (L.getD (s k) j0).t else nowF L S s k
/-- The first k of the row s are on time, those of S alone. -/
def FitS (L : List J4) (S : Nat) (s : Nat → Nat) (k : Nat) : Prop := ∀ a, a < k → S.testBit (s a) = true → nowF L S s (a + 1) ≤ (L.getD (s a) j0).d
theorem nowF_bd {L : List J4} (hL : JobsOk L) {S : Nat} {s : Nat → Nat} : ∀ k, (∀ a, a < k → s a < L.length) → 0 ≤ nowF L S s k ∧ nowF L S s k ≤ 20 * k
  | 0, _ => ⟨Int.le_refl _, by simp [nowF]⟩
  | k + 1, h => by
      obtain ⟨h1, h2⟩ := nowF_bd (S := S) hL k fun a ha => h a (by omega)
      have h3 := hL.at_ (s k) (h k (by omega))
      unfold nowF
      split
      · constructor <;> push_cast <;> omega
      · constructor <;> push_cast <;> omega
/-- a is not behind b. -/
def leK (key : Nat → Int) (a b : Nat) : Prop := ltK key a b ∨ a = b
instance (key : Nat → Int) (a b : Nat) : Decidable (ltK key a b) := by unfold ltK; infer_instance
instance (key : Nat → Int) (a b : Nat) : Decidable (leK key a b) := by unfold leK; infer_instance
def due (L : List J4) (a : Nat) : Int := (L.getD a j0).d
/-- The work of S up to b. -/
def workK (L : List J4) (S b : Nat) : Int := sumF (fun j => if S.testBit j = true ∧ leK (due L) j b then (L.getD j j0).t else 0) L.length
def fitB (L : List J4) (S : Nat) : Bool := decide (∀ i, i < L.length → S.testBit i = true → workK L S i ≤ (L.getD i j0).d)

theorem foldr_perm {l l' : List Int} (h : l.Perm l') : l.foldr (· + ·) 0 = l'.foldr (· + ·) 0 := by
  induction h with
  | nil => rfl
  | cons x _ ih => simp [ih]
  | swap x y l => simp; omega
  | trans _ _ h1 h2 => rw [h1, h2]
theorem Sorted0.perm {key : Nat → Int} {s : Nat → Nat} {n : Nat} (h : Sorted0 key id s n n) : ((List.range n).map s).Perm (List.range n) := by
  have hinj : ∀ a b, a < n → b < n → s a = s b → a = b := fun a b ha hb e => by
    rcases Nat.lt_trichotomy a b with h1 | h1 | h1
    · have := h.sorted a b h1 hb; unfold ltK at this; rw [e] at this; omega
    · exact h1
    · have := h.sorted b a h1 ha; unfold ltK at this; rw [e] at this; omega
  have hnd : ((List.range n).map s).Nodup := by
    rw [List.nodup_iff_pairwise_ne, List.pairwise_map]
    refine List.Pairwise.imp_of_mem ?_ List.nodup_range
    intro a b ha hb hne e
    exact hne (hinj a b (List.mem_range.1 ha) (List.mem_range.1 hb) e)
  have hsub : ((List.range n).map s) ⊆ List.range n := fun x hx => by
    obtain ⟨a, ha, rfl⟩ := List.mem_map.1 hx
    obtain ⟨m, hm, e⟩ := h.low a (List.mem_range.1 ha)
    rw [e]; exact List.mem_range.2 hm
  refine (List.perm_ext_iff_of_nodup hnd List.nodup_range).2 fun x => ⟨fun hx => hsub hx, fun hx => ?_⟩
  rcases Classical.em (x ∈ (List.range n).map s) with h1 | h1
  · exact h1
  · have := nodup_le n (x :: (List.range n).map s) (List.nodup_cons.2 ⟨h1, hnd⟩) (fun y hy => by
      rcases List.mem_cons.1 hy with rfl | hy
      · exact List.mem_range.1 hx
      · exact List.mem_range.1 (hsub hy))
    simp at this
    omega
theorem foldr_sumF (f : Nat → Int) : ∀ n, ((List.range n).map f).foldr (· + ·) 0 = sumF f n
  | 0 => rfl
  | n + 1 => by
      have hsn : ∀ (l : List Int) (x : Int), (l ++ [x]).foldr (· + ·) 0 = l.foldr (· + ·) 0 + x := fun l x => by
        induction l with
        | nil => simp
        | cons y l ih => simp at ih ⊢; rw [ih]; omega
      rw [List.range_succ, List.map_append, List.map_singleton, hsn, foldr_sumF f n, sumF]
theorem nowF_work {L : List J4} {S : Nat} {s : Nat → Nat} (h : Sorted0 (due L) id s L.length L.length) {a : Nat} (ha : a < L.length) (hb : S.testBit (s a) = true) : nowF L S s (a + 1) = workK L S (s a) := by
  have hcut : ∀ k, k ≤ L.length → ((List.range k).map fun j => if S.testBit (s j) = true ∧ leK (due L) (s j) (s a) then (L.getD (s j) j0).t else 0).foldr (· + ·) 0 = nowF L S s (min k (a + 1)) := by
    have hsn : ∀ (l : List Int) (x : Int), (l ++ [x]).foldr (· + ·) 0 = l.foldr (· + ·) 0 + x := fun l x => by
      induction l with
      | nil => simp
      | cons y l ih => simp at ih ⊢; rw [ih]; omega
    intro k
    induction k with
    | zero => intro _; rw [Nat.zero_min]; rfl
    | succ k ih =>
      intro hk
      rw [List.range_succ, List.map_append, List.map_singleton, hsn, ih (by omega)]
      by_cases hka : k ≤ a
      · have hle : leK (due L) (s k) (s a) := by
          rcases Nat.lt_or_ge k a with h1 | h1
          · exact .inl (h.sorted k a h1 ha)
          · exact .inr (by rw [show k = a by omega])
        rw [show min k (a + 1) = k by omega, show min (k + 1) (a + 1) = k + 1 by omega]
        show _ = if S.testBit (s k) = true then nowF L S s k + (L.getD (s k) j0).t else nowF L S s k
        by_cases hbk : S.testBit (s k) = true
        · rw [if_pos ⟨hbk, hle⟩, if_pos hbk]
        · rw [if_neg (fun h => hbk h.1), if_neg hbk]; omega
      · have hnl : ¬ leK (due L) (s k) (s a) := fun hle => by
          have h1 := h.sorted a k (by omega) (by omega)
          unfold leK ltK at hle
          unfold ltK at h1
          rcases hle with h2 | h2
          · omega
          · rw [h2] at h1; omega
        rw [if_neg (fun h => hnl h.2), show min k (a + 1) = a + 1 by omega, show min (k + 1) (a + 1) = a + 1 by omega]; omega
  have h1 := hcut L.length (Nat.le_refl _)
  rw [show min L.length (a + 1) = a + 1 by omega] at h1
  rw [← h1]
  unfold workK
  rw [← foldr_sumF]
  have h2 := (h.perm.map fun j => if S.testBit j = true ∧ leK (due L) j (s a) then (L.getD j j0).t else 0)
  rw [List.map_map] at h2
  exact foldr_perm h2
theorem fitS_fitB {L : List J4} {S : Nat} {s : Nat → Nat} (h : Sorted0 (due L) id s L.length L.length) : FitS L S s L.length ↔ fitB L S = true := by
  rw [fitB, decide_eq_true_iff]
  constructor
  · intro hf i hi hb
    have hm : i ∈ (List.range L.length).map s := h.perm.mem_iff.2 (List.mem_range.2 hi)
    obtain ⟨a, ha, rfl⟩ := List.mem_map.1 hm
    have ha := List.mem_range.1 ha
    rw [← nowF_work h ha hb]
    exact hf a ha hb
  · intro hf a ha hb
    rw [nowF_work h ha hb]
    obtain ⟨m, hm, e⟩ := h.low a ha
    exact hf (s a) (by rw [e]; exact hm) hb
end Go.Proofs.Ytiadineakhcclaa

/-
  dates: fits.
-/
namespace Go.Proofs.Ytiadineakhcclaa
open Go.RowKit
set_option linter.unusedVariables false
set_option linter.unusedSimpArgs false

set_option maxRecDepth 100000 in
set_option maxHeartbeats 1600000 in
theorem fits_any (A : Option Addr) (n c S : Nat) (L : List J4) (w : World) (hn : L.length = n) (hL : JobsOk L) (hS : S < 256) (hA : JobsA w w.heap.size A L) :
    Calls Try.prog 84 #[.slice A n c, .int .i64 (S : Nat)] w fun e w' => e = .returned (.bool (fitB L S)) ∧ Below w.heap.size w w' := by
  have h8 : n ≤ 8 := by rw [← hn]; exact hL.le
  have h1 : 1 ≤ n := by rw [← hn]; exact hL.pos
  have HD := hide (byDue_any A n c L w hn hL hA)
  have HA := hide hA
  have HL := hide hL
  have HN := hide hn
  have hS62 : S < 2 ^ 62 := Nat.lt_trans hS (by decide)
  clear hA hL hn
  go_enter Try.func84, Try.ntmps84
  go_wp2_with (go_at_call 89; refine (HD.out).mono ?_; rintro e w1 ⟨s, X, c', h1, rfl, h2, h3, h4⟩; have H1 := hide h1; have H3 := hide h3; have H4 := hide h4; clear h1 h3 h4)
  go_loopw [5, 11] (fun v5 v11 wr => ∃ k : Nat, k ≤ n ∧ v11 = .int .i64 k ∧ v5 = .int .i64 (nowF L S s k) ∧ Hid (FitS L S s k) ∧ Below w1.heap.size w1 wr) (fun _ v11 _ => n - (intOf v11).toNat)
  case atStart => exact ⟨0, Nat.zero_le _, rfl, rfl, hide (fun a ha => by omega), Below.refl _ _⟩
  case round =>
    obtain ⟨k, hk, rfl, rfl, HF, hb⟩ := hrel
    have HB := hide hb
    by_cases hlt : k < n
    · have hkn : (k : Int) < (n : Int) := by omega
      have HLow : ∀ a, a < n → s a < n := fun a ha => by
        obtain ⟨m, hm, e⟩ := H1.out.low a ha
        rw [e]; exact hm
      have hbd := nowF_bd (S := S) HL.out (s := s) k (fun a ha => by rw [HN.out]; exact HLow a (by omega))
      have hjb := HL.out.at_ (s k) (by rw [HN.out]; exact HLow k hlt)
      have hsk : s k < n := HLow k hlt
      have HS := hide (show nowF L S s (k + 1) = if S.testBit (s k) then nowF L S s k + (L.getD (s k) j0).t else nowF L S s k from rfl)
      obtain ⟨bx, ox, x1, rfl, hbx, hcx, hxx⟩ := (H3.out.next hb).at_ (k := k) (by simp [up]; omega)
      have e1 : x1 = (s k : Nat) := by
        have := hxx.out
        rw [up_getD] at this
        rw [← this]; congr 1; rw [List.getD_eq_getElem?_getD]; simp [hlt]
      obtain ⟨q, o, t1, r1, d1, u1, rfl, hq, ha0, ha1, ha2, ha3, hx1⟩ := ((HA.out.next H4.out).next hb).at_ (k := s k) (by rw [HN.out]; exact hsk)
      rw [hx1.out] at hjb HS
      have hjb0 : 1 ≤ t1 ∧ t1 ≤ 20 ∧ 0 ≤ d1 ∧ d1 ≤ 200 := ⟨hjb.1, hjb.2.1, hjb.2.2.2.2.1, hjb.2.2.2.2.2.1⟩
      have HX := hide hx1.out
      have HK := hide (show ∃ i, i = s k from ⟨_, rfl⟩)
      obtain ⟨g, hg⟩ : ∃ g, g = s k := ⟨_, rfl⟩
      obtain ⟨N0, hN0⟩ : ∃ N0, N0 = nowF L S s k := ⟨_, rfl⟩
      rw [← hg] at hsk HS e1 ha0 ha2
      rw [← hN0] at hbd HS ⊢
      have hkk : k ≤ 8 := by omega
      have hgn : (g : Int) < (n : Int) := by omega
      have hS0 := shr_test0 S g hS62
      subst e1
      have HG := hide hg
      have HN0 := hide hN0
      clear hb hxx ha1 ha3 hx1 hg hN0 hjb HLow
      cases hbt : S.testBit g with
      | false =>
        rw [hbt] at hS0 HS
        have HT := hide hbt
        clear hbt ha0 ha2
        go_wp2
        go_roundw
        case rel =>
          refine ⟨k + 1, by omega, by go_num, by rw [HS.out]; simp, hide (fun a ha hb => ?_), HB.out⟩
          rcases Nat.lt_or_ge a k with h | h
          · exact HF.out a h hb
          · obtain rfl : a = k := by omega
            rw [← HG.out, HT.out] at hb; cases hb
        case measure => simp [intOf] <;> omega
      | true =>
        rw [hbt] at hS0 HS
        have HT := hide hbt
        clear hbt
        have HS1 : Hid (nowF L S s (k + 1) = N0 + t1) := hide (by rw [HS.out]; simp)
        have hnt : 0 ≤ N0 + t1 ∧ N0 + t1 ≤ 180 := by omega
        by_cases hgt : d1 < N0 + t1
        · have HGT := hide hgt
          go_wp2
          go_ret
          refine ⟨?_, H4.out.trans (HB.out.mono H4.out.size)⟩
          have hf : fitB L S = false := by
            rcases Bool.eq_false_or_eq_true (fitB L S) with h | h
            · have h2 := (fitS_fitB (HN.out.symm ▸ H1.out)).2 h k (by rw [HN.out]; exact hlt) (by rw [← HG.out]; exact HT.out)
              rw [HS1.out, HX.out] at h2
              exact absurd h2 (by show ¬ (N0 + t1 ≤ d1); have := HGT.out; omega)
            · exact h
          rw [hf]; rfl
        · have HGT := hide hgt
          go_wp2
          go_roundw
          case rel =>
            refine ⟨k + 1, by omega, by go_num, by rw [HS1.out], hide (fun a ha hb => ?_), HB.out⟩
            rcases Nat.lt_or_ge a k with h | h
            · exact HF.out a h hb
            · obtain rfl : a = k := by omega
              rw [HS1.out, HX.out]
              show N0 + t1 ≤ d1
              have := HGT.out; omega
          case measure => simp [intOf] <;> omega
    · obtain rfl : n = k := by omega
      clear hb
      go_wp2
      go_ret
      refine ⟨?_, H4.out.trans (HB.out.mono H4.out.size)⟩
      have := (fitS_fitB (S := S) (HN.out.symm ▸ H1.out)).1 (HN.out.symm ▸ HF.out)
      rw [this]; rfl
end Go.Proofs.Ytiadineakhcclaa

/-
  dates: math/bits.OnesCount of sets below 256.
-/
namespace Go.Proofs.Ytiadineakhcclaa
open Go.RowKit
set_option linter.unusedVariables false
set_option linter.unusedSimpArgs false

set_option maxRecDepth 100000 in
set_option maxHeartbeats 1600000 in
theorem ones64_any (M : Nat) (hM : M < 256) (w : World) : Calls Try.prog 86 #[.int .u64 M] w fun e w' => e = .returned (.int .i64 (cardF 8 M : Nat)) ∧ w = w' := by
  go_enter Try.func86, Try.ntmps86
  go_wp2
  go_ret
  refine ⟨?_, rfl⟩
  refine congrArg Ending.returned ?_
  show Value.int _ _ = Value.int _ _
  refine congrArg (Value.int .i64) ?_
  revert M
  decide +kernel
set_option maxHeartbeats 400000 in
theorem ones_any (M : Nat) (hM : M < 256) (w : World) : Calls Try.prog 73 #[.int .u64 M] w fun e w' => e = .returned (.int .i64 (cardF 8 M : Nat)) ∧ w = w' := by
  have H := hide (ones64_any M hM w)
  go_enter Try.func73, Try.ntmps73
  go_wp2_with (go_at_call 86; refine (H.out).mono ?_; rintro e w1 ⟨rfl, rfl⟩)
  go_ret
  exact ⟨rfl, rfl⟩
set_option maxHeartbeats 400000 in
theorem most1_any (M : Nat) (hM : M < 256) (w : World) : Calls Try.prog 72 #[.int .i64 M] w fun e w' => e = .returned (.int .i64 (cardF 8 M : Nat)) ∧ w = w' := by
  have H := hide (ones_any M hM w)
  go_enter Try.func72, Try.ntmps72
  go_wp2_with (go_at_call 73; refine (H.out).mono ?_; rintro e w1 ⟨rfl, rfl⟩)
  go_ret
  exact ⟨rfl, rfl⟩
end Go.Proofs.Ytiadineakhcclaa

/-
  dates: weight, best.
-/
namespace Go.Proofs.Ytiadineakhcclaa
open Go.RowKit
set_option linter.unusedVariables false
set_option linter.unusedSimpArgs false

def wtN (L : List J4) (S k : Nat) : Int := sumF (fun j => if S.testBit j = true then (L.getD j j0).w else 0) k
theorem wtN_bd {L : List J4} (hL : JobsOk L) (S : Nat) : ∀ k, k ≤ L.length → 0 ≤ wtN L S k ∧ wtN L S k ≤ 20 * k
  | 0, _ => ⟨Int.le_refl _, by simp [wtN, sumF]⟩
  | k + 1, h => by
      obtain ⟨h1, h2⟩ := wtN_bd hL S k (by omega)
      have h3 := hL.at_ k (by omega)
      have e : wtN L S (k + 1) = wtN L S k + if S.testBit k = true then (L.getD k j0).w else 0 := rfl
      rw [e]
      split <;> constructor <;> push_cast <;> omega
set_option maxRecDepth 100000 in
set_option maxHeartbeats 1600000 in
theorem weight_any (A : Option Addr) (n c S : Nat) (L : List J4) (w : World) (hn : L.length = n) (hL : JobsOk L) (hS : S < 256) (hA : JobsA w w.heap.size A L) :
    Calls Try.prog 74 #[.slice A n c, .int .i64 (S : Nat)] w fun e w' => e = .returned (.int .i64 (wtN L S n)) ∧ Below w.heap.size w w' := by
  have h8 : n ≤ 8 := by rw [← hn]; exact hL.le
  have HA := hide hA
  have HL := hide hL
  have HN := hide hn
  have hS62 : S < 2 ^ 62 := Nat.lt_trans hS (by decide)
  clear hA hL hn
  go_enter Try.func74, Try.ntmps74
  go_wp2
  go_loopw [5, 10] (fun v5 v10 wr => ∃ (k : Nat) (y : Int), k ≤ n ∧ v10 = .int .i64 k ∧ v5 = .int .i64 y ∧ Hid (y = wtN L S k) ∧ Below w.heap.size w wr) (fun _ v _ => n - (intOf v).toNat)
  case atStart => exact ⟨0, 0, Nat.zero_le _, rfl, rfl, hide rfl, Below.refl _ _⟩
  case round =>
    obtain ⟨k, y, hk, rfl, rfl, HY, hb2⟩ := hrel
    by_cases hlt : k < n
    · obtain ⟨bj, oj, t, r, d, u, rfl, hbj, hj0, hj1, hj2, hj3, hxj⟩ := (HA.out.next hb2).at_ (k := k) (by rw [HN.out]; exact hlt)
      have hkn : (k : Int) < (n : Int) := by omega
      have hdb := HL.out.at_ k (by rw [HN.out]; exact hlt)
      rw [hxj.out] at hdb
      simp only [] at hdb
      obtain ⟨_, _, _, _, _, _, hdb0, hdb1⟩ := hdb
      have hy := wtN_bd HL.out S k (by rw [HN.out]; omega)
      rw [← HY.out] at hy
      have hkk : (k : Int) ≤ 8 := by omega
      obtain ⟨b, hb⟩ : ∃ b : Int, b = if S.testBit k = true then 1 else 0 := ⟨_, rfl⟩
      obtain ⟨p, hp⟩ : ∃ p : Int, p = if S.testBit k = true then u else 0 := ⟨_, rfl⟩
      have hbit : bits .and .i64 ((S : Int) / 2 ^ k) 1 = b := by rw [hb]; exact shr_bit S k hS62
      have hpb : 0 ≤ p ∧ p ≤ 20 := by rw [hp]; split <;> omega
      have hup : u * b = p := by rw [hb, hp]; split <;> omega
      have HM : Hid (IntKind.i64.wrap (u * b) = p) := by rw [hup, IntKind.wrap_i64]; exact hide (by omega)
      have HP : Hid (IntKind.i64.wrap (y + p) = y + p) := by rw [IntKind.wrap_i64]; exact hide (by omega)
      have HYN : Hid (y + p = wtN L S (k + 1)) := hide (by
        show _ = wtN L S k + if S.testBit k = true then (L.getD k j0).w else 0
        rw [hxj.out, ← HY.out, hp])
      have HBW : Hid (∀ o q, Below w.heap.size w ((wr.alloc o).drewN q)) := fun o q => below_drewN (hb2.alloc hb2.size _) q
      have hm := HM.out
      have hpp := HP.out
      clear hxj hb2 hup hb hp
      go_wp2
      go_quiet (fail)
      go_wp2
      go_roundw
      case rel => exact ⟨k + 1, _, by omega, by go_num, rfl, HYN, HBW.out _ _⟩
      case measure => simp [intOf] <;> omega
    · obtain rfl : n = k := by omega
      have e9 := HY.out
      subst e9
      have HB9 := hide hb2
      clear hb2
      go_wp2
      go_ret
      exact ⟨rfl, HB9.out⟩
end Go.Proofs.Ytiadineakhcclaa

/-
  dates: best, Most, Weigh.
-/
namespace Go.Proofs.Ytiadineakhcclaa
open Go.RowKit
set_option linter.unusedVariables false
set_option linter.unusedSimpArgs false

/-- The least set that fits with the greatest value, of the first k. -/
def bestV (v : Nat → Int) (f : Nat → Bool) : Nat → Nat
  | 0 => 0
  | k + 1 => if v (bestV v f k) < v k ∧ f k = true then k else bestV v f k
theorem bestV_le (v : Nat → Int) (f : Nat → Bool) : ∀ k, bestV v f k ≤ k
  | 0 => Nat.le_refl _
  | k + 1 => by
      have := bestV_le v f k
      unfold bestV
      split <;> omega
theorem pow256 {n : Nat} (h : n ≤ 8) : 2 ^ n ≤ 256 := Nat.pow_le_pow_right (n := 2) (by decide) h
theorem wrap_pow {n : Nat} (h : n ≤ 8) : wrap64 (2 ^ min n 64) = ((2 ^ n : Nat) : Int) := by
  rw [show min n 64 = n by omega]; exact shl_one n (by omega)
theorem goes_most1 : Goes Try.prog 72 := goes_of Try.func72 (by kernel_rfl) (by kernel_rfl)
theorem goes_weight : Goes Try.prog 74 := goes_of Try.func74 (by kernel_rfl) (by kernel_rfl)
set_option maxRecDepth 100000 in
set_option maxHeartbeats 1600000 in
theorem best_most (A : Option Addr) (n c : Nat) (L : List J4) (w : World) (hn : L.length = n) (hL : JobsOk L) (hA : JobsA w w.heap.size A L) :
    Calls Try.prog 71 #[.slice A n c, .func (.func 72) #[] #[]] w fun e w' => e = .returned (.int .i64 (bestV (fun S => (cardF 8 S : Int)) (fitB L) (2 ^ n) : Nat)) ∧ Below w.heap.size w w' := by
  have h8 : n ≤ 8 := by rw [← hn]; exact hL.le
  obtain ⟨v, hv⟩ : ∃ v : Nat → Int, v = (fun S => (cardF 8 S : Int)) := ⟨_, rfl⟩
  have HV : Hid (∀ (w' : World) (S : Nat), Below w.heap.size w w' → S < 256 → Calls Try.prog 72 #[.int .i64 (S : Nat)] w' fun e w'' => e = .returned (.int .i64 (v S)) ∧ Below w.heap.size w w'') := fun w' S hb hS => by
    rw [hv]
    exact (most1_any S hS w').mono fun _ _ h => ⟨h.1, h.2 ▸ hb⟩
  have HF : Hid (∀ (w' : World) (S : Nat), Below w.heap.size w w' → S < 256 → Calls Try.prog 84 #[.slice A n c, .int .i64 (S : Nat)] w' fun e w'' => e = .returned (.bool (fitB L S)) ∧ Below w.heap.size w w'') := fun w' S hb hS =>
    (fits_any A n c S L w' hn hL hS (hA.next hb)).mono fun _ _ h => ⟨h.1, hb.trans (h.2.mono hb.size)⟩
  rw [← hv]
  obtain ⟨N, hN⟩ : ∃ N, N = 2 ^ n := ⟨_, rfl⟩
  have hN8 : N ≤ 256 := by rw [hN]; exact pow256 h8
  have HW : Hid (wrap64 (2 ^ min n 64) = (N : Int)) := by rw [hN]; exact wrap_pow h8
  have HW2 : Hid (wrap64 (2 ^ n) = (N : Int)) := by rw [hN]; exact hide (shl_one n (by omega))
  rw [← hN]
  obtain ⟨f, hf⟩ : ∃ f, f = fitB L := ⟨_, rfl⟩
  rw [← hf] at HF ⊢
  clear hA hL hn hv hN hf
  go_enter Try.func71, Try.ntmps71
  go_wp2
  first | rw [HW.out] | rw [HW2.out]
  go_loopw [5, 10] (fun v5 v10 wr => ∃ (k b : Nat), k ≤ N ∧ v10 = .int .i64 k ∧ v5 = .int .i64 (b : Nat) ∧ Hid (b = bestV v f k) ∧ Below w.heap.size w wr) (fun _ v _ => N - (intOf v).toNat)
  case atStart => exact ⟨0, 0, Nat.zero_le _, rfl, rfl, hide rfl, Below.refl _ _⟩
  case round =>
    obtain ⟨k, b, hk, rfl, rfl, HB, hb⟩ := hrel
    obtain ⟨w1, rfl⟩ : ∃ w1 : World, w1 = wr := ⟨_, rfl⟩
    by_cases hlt : k < N
    · have hkn : (k : Int) < (N : Int) := by omega
      have hb8 : b ≤ k := by rw [HB.out]; exact bestV_le v f k
      have hk8 : k < 256 := by omega
      have HS := hide (show bestV v f (k + 1) = if v (bestV v f k) < v k ∧ f k = true then k else bestV v f k from rfl)
      rw [← HB.out] at HS
      have HC1 := hide (HV.out w1 k hb hk8)
      have HC2 : Hid (∀ w', Below w.heap.size w w' → Calls Try.prog 72 #[.int .i64 (b : Nat)] w' fun e w'' => e = .returned (.int .i64 (v b)) ∧ Below w.heap.size w w'') := fun w' h => HV.out w' b h (by omega)
      have HC3 : Hid (∀ w', Below w.heap.size w w' → Calls Try.prog 84 #[.slice A n c, .int .i64 (k : Nat)] w' fun e w'' => e = .returned (.bool (f k)) ∧ Below w.heap.size w w'') := fun w' h => HF.out w' k h hk8
      obtain ⟨x, hx⟩ : ∃ x, x = v k := ⟨_, rfl⟩
      obtain ⟨y, hy⟩ : ∃ y, y = v b := ⟨_, rfl⟩
      obtain ⟨z, hz⟩ : ∃ z, z = f k := ⟨_, rfl⟩
      rw [← hx] at HC1 HS
      rw [← hy] at HC2 HS
      rw [← hz] at HC3 HS
      clear hx hy hz hb
      by_cases hxy : y < x
      · cases z with
        | true =>
          have HT : Hid (k = bestV v f (k + 1)) := hide (by rw [HS.out, if_pos ⟨hxy, rfl⟩])
          clear HS
          go_wp2_with (first
            | (go_at_call 72; (with_reducible refine (HC1.out).mono ?_); rintro e w2 ⟨rfl, hb2⟩; have HB2 := hide hb2; clear hb2)
            | (go_at_call 72; (with_reducible refine (HC2.out _ HB2.out).mono ?_); rintro e w3 ⟨rfl, hb3⟩; have HB3 := hide hb3; clear hb3)
            | (go_at_call 84; (with_reducible refine (HC3.out _ HB3.out).mono ?_); rintro e w4 ⟨rfl, hb4⟩; have HB4 := hide hb4; clear hb4))
          go_roundw
          case rel => exact ⟨k + 1, k, by omega, by go_num, rfl, HT, HB4.out⟩
          case measure => simp [intOf] <;> omega
        | false =>
          have HT : Hid (b = bestV v f (k + 1)) := hide (by rw [HS.out, if_neg (fun h => by cases h.2)])
          clear HS
          go_wp2_with (first
            | (go_at_call 72; (with_reducible refine (HC1.out).mono ?_); rintro e w2 ⟨rfl, hb2⟩; have HB2 := hide hb2; clear hb2)
            | (go_at_call 72; (with_reducible refine (HC2.out _ HB2.out).mono ?_); rintro e w3 ⟨rfl, hb3⟩; have HB3 := hide hb3; clear hb3)
            | (go_at_call 84; (with_reducible refine (HC3.out _ HB3.out).mono ?_); rintro e w4 ⟨rfl, hb4⟩; have HB4 := hide hb4; clear hb4))
          go_roundw
          case rel => exact ⟨k + 1, b, by omega, by go_num, rfl, HT, HB4.out⟩
          case measure => simp [intOf] <;> omega
      · have HT : Hid (b = bestV v f (k + 1)) := hide (by rw [HS.out, if_neg (fun h => hxy h.1)])
        clear HS
        go_wp2_with (first
          | (go_at_call 72; (with_reducible refine (HC1.out).mono ?_); rintro e w2 ⟨rfl, hb2⟩; have HB2 := hide hb2; clear hb2)
          | (go_at_call 72; (with_reducible refine (HC2.out _ HB2.out).mono ?_); rintro e w3 ⟨rfl, hb3⟩; have HB3 := hide hb3; clear hb3))
        go_roundw
        case rel => exact ⟨k + 1, b, by omega, by go_num, rfl, HT, HB3.out⟩
        case measure => simp [intOf] <;> omega
    · obtain rfl : N = k := by omega
      have HB1 := hide hb
      clear hb
      go_wp2
      go_ret
      exact ⟨by rw [← HB.out]; rfl, HB1.out⟩
set_option maxRecDepth 100000 in
set_option maxHeartbeats 1600000 in
theorem best_weight (A : Option Addr) (n c : Nat) (L : List J4) (w : World) (hn : L.length = n) (hL : JobsOk L) (hA : JobsA w w.heap.size A L) :
    Calls Try.prog 71 #[.slice A n c, .func (.func 74) #[.slice A n c] #[]] w fun e w' => e = .returned (.int .i64 (bestV (fun S => wtN L S L.length) (fitB L) (2 ^ n) : Nat)) ∧ Below w.heap.size w w' := by
  have h8 : n ≤ 8 := by rw [← hn]; exact hL.le
  obtain ⟨v, hv⟩ : ∃ v : Nat → Int, v = (fun S => wtN L S L.length) := ⟨_, rfl⟩
  have HV : Hid (∀ (w' : World) (S : Nat), Below w.heap.size w w' → S < 256 → Calls Try.prog 74 #[.slice A n c, .int .i64 (S : Nat)] w' fun e w'' => e = .returned (.int .i64 (v S)) ∧ Below w.heap.size w w'') := fun w' S hb hS => by
    rw [hv]
    show Calls _ _ _ _ fun e w'' => e = .returned (.int .i64 (wtN L S L.length)) ∧ _
    rw [hn]
    exact (weight_any A n c S L w' hn hL hS (hA.next hb)).mono fun _ _ h => ⟨h.1, hb.trans (h.2.mono hb.size)⟩
  have HF : Hid (∀ (w' : World) (S : Nat), Below w.heap.size w w' → S < 256 → Calls Try.prog 84 #[.slice A n c, .int .i64 (S : Nat)] w' fun e w'' => e = .returned (.bool (fitB L S)) ∧ Below w.heap.size w w'') := fun w' S hb hS =>
    (fits_any A n c S L w' hn hL hS (hA.next hb)).mono fun _ _ h => ⟨h.1, hb.trans (h.2.mono hb.size)⟩
  rw [← hv]
  obtain ⟨N, hN⟩ : ∃ N, N = 2 ^ n := ⟨_, rfl⟩
  have hN8 : N ≤ 256 := by rw [hN]; exact pow256 h8
  have HW : Hid (wrap64 (2 ^ min n 64) = (N : Int)) := by rw [hN]; exact wrap_pow h8
  have HW2 : Hid (wrap64 (2 ^ n) = (N : Int)) := by rw [hN]; exact hide (shl_one n (by omega))
  rw [← hN]
  obtain ⟨f, hf⟩ : ∃ f, f = fitB L := ⟨_, rfl⟩
  rw [← hf] at HF ⊢
  clear hA hL hn hv hN hf
  go_enter Try.func71, Try.ntmps71
  go_wp2
  first | rw [HW.out] | rw [HW2.out]
  go_loopw [5, 10] (fun v5 v10 wr => ∃ (k b : Nat), k ≤ N ∧ v10 = .int .i64 k ∧ v5 = .int .i64 (b : Nat) ∧ Hid (b = bestV v f k) ∧ Below w.heap.size w wr) (fun _ v _ => N - (intOf v).toNat)
  case atStart => exact ⟨0, 0, Nat.zero_le _, rfl, rfl, hide rfl, Below.refl _ _⟩
  case round =>
    obtain ⟨k, b, hk, rfl, rfl, HB, hb⟩ := hrel
    obtain ⟨w1, rfl⟩ : ∃ w1 : World, w1 = wr := ⟨_, rfl⟩
    by_cases hlt : k < N
    · have hkn : (k : Int) < (N : Int) := by omega
      have hb8 : b ≤ k := by rw [HB.out]; exact bestV_le v f k
      have hk8 : k < 256 := by omega
      have HS := hide (show bestV v f (k + 1) = if v (bestV v f k) < v k ∧ f k = true then k else bestV v f k from rfl)
      rw [← HB.out] at HS
      have HC1 := hide (HV.out w1 k hb hk8)
      have HC2 : Hid (∀ w', Below w.heap.size w w' → Calls Try.prog 74 #[.slice A n c, .int .i64 (b : Nat)] w' fun e w'' => e = .returned (.int .i64 (v b)) ∧ Below w.heap.size w w'') := fun w' h => HV.out w' b h (by omega)
      have HC3 : Hid (∀ w', Below w.heap.size w w' → Calls Try.prog 84 #[.slice A n c, .int .i64 (k : Nat)] w' fun e w'' => e = .returned (.bool (f k)) ∧ Below w.heap.size w w'') := fun w' h => HF.out w' k h hk8
      obtain ⟨x, hx⟩ : ∃ x, x = v k := ⟨_, rfl⟩
      obtain ⟨y, hy⟩ : ∃ y, y = v b := ⟨_, rfl⟩
      obtain ⟨z, hz⟩ : ∃ z, z = f k := ⟨_, rfl⟩
      rw [← hx] at HC1 HS
      rw [← hy] at HC2 HS
      rw [← hz] at HC3 HS
      clear hx hy hz hb
      by_cases hxy : y < x
      · cases z with
        | true =>
          have HT : Hid (k = bestV v f (k + 1)) := hide (by rw [HS.out, if_pos ⟨hxy, rfl⟩])
          clear HS
          go_wp2_with (first
            | (go_at_call 74; (with_reducible refine (HC1.out).mono ?_); rintro e w2 ⟨rfl, hb2⟩; have HB2 := hide hb2; clear hb2)
            | (go_at_call 74; (with_reducible refine (HC2.out _ HB2.out).mono ?_); rintro e w3 ⟨rfl, hb3⟩; have HB3 := hide hb3; clear hb3)
            | (go_at_call 84; (with_reducible refine (HC3.out _ HB3.out).mono ?_); rintro e w4 ⟨rfl, hb4⟩; have HB4 := hide hb4; clear hb4))
          go_roundw
          case rel => exact ⟨k + 1, k, by omega, by go_num, rfl, HT, HB4.out⟩
          case measure => simp [intOf] <;> omega
        | false =>
          have HT : Hid (b = bestV v f (k + 1)) := hide (by rw [HS.out, if_neg (fun h => by cases h.2)])
          clear HS
          go_wp2_with (first
            | (go_at_call 74; (with_reducible refine (HC1.out).mono ?_); rintro e w2 ⟨rfl, hb2⟩; have HB2 := hide hb2; clear hb2)
            | (go_at_call 74; (with_reducible refine (HC2.out _ HB2.out).mono ?_); rintro e w3 ⟨rfl, hb3⟩; have HB3 := hide hb3; clear hb3)
            | (go_at_call 84; (with_reducible refine (HC3.out _ HB3.out).mono ?_); rintro e w4 ⟨rfl, hb4⟩; have HB4 := hide hb4; clear hb4))
          go_roundw
          case rel => exact ⟨k + 1, b, by omega, by go_num, rfl, HT, HB4.out⟩
          case measure => simp [intOf] <;> omega
      · have HT : Hid (b = bestV v f (k + 1)) := hide (by rw [HS.out, if_neg (fun h => hxy h.1)])
        clear HS
        go_wp2_with (first
          | (go_at_call 74; (with_reducible refine (HC1.out).mono ?_); rintro e w2 ⟨rfl, hb2⟩; have HB2 := hide hb2; clear hb2)
          | (go_at_call 74; (with_reducible refine (HC2.out _ HB2.out).mono ?_); rintro e w3 ⟨rfl, hb3⟩; have HB3 := hide hb3; clear hb3))
        go_roundw
        case rel => exact ⟨k + 1, b, by omega, by go_num, rfl, HT, HB3.out⟩
        case measure => simp [intOf] <;> omega
    · obtain rfl : N = k := by omega
      have HB1 := hide hb
      clear hb
      go_wp2
      go_ret
      exact ⟨by rw [← HB.out]; rfl, HB1.out⟩
end Go.Proofs.Ytiadineakhcclaa

/-
  dates: Most, Weigh.
-/
namespace Go.Proofs.Ytiadineakhcclaa
open Go.RowKit Go.Deep
set_option linter.unusedVariables false
set_option linter.unusedSimpArgs false

set_option maxHeartbeats 800000 in
theorem most_no (A : Option Addr) (n c : Nat) (L : List J4) (w : World) (hn : L.length = n) (hlen : n ≤ 9223372036854775807) (hA : JobsA w w.heap.size A L) (hv : jobsB L = false) :
    Calls Try.prog 49 #[.slice A n c] w fun e w' => e = .returned (.tuple #[.int .i64 0, .int .i64 2]) ∧ Below w.heap.size w w' := by
  have HV := hide (jvalid_any A n c L w hn hlen hA)
  rw [hv] at HV
  clear hv hA hn
  go_enter Try.func49, Try.ntmps49
  go_wp2_with (first | (go_at_call 54; refine (HV.out).mono ?_; rintro e w1 ⟨rfl, hb1⟩; have HB1 := hide hb1; clear hb1))
  go_ret2
  exact ⟨rfl, HB1.out⟩
set_option maxHeartbeats 800000 in
theorem weigh_no (A : Option Addr) (n c : Nat) (L : List J4) (w : World) (hn : L.length = n) (hlen : n ≤ 9223372036854775807) (hA : JobsA w w.heap.size A L) (hv : jobsB L = false) :
    Calls Try.prog 50 #[.slice A n c] w fun e w' => e = .returned (.tuple #[.int .i64 0, .int .i64 0, .int .i64 2]) ∧ Below w.heap.size w w' := by
  have HV := hide (jvalid_any A n c L w hn hlen hA)
  rw [hv] at HV
  clear hv hA hn
  go_enter Try.func50, Try.ntmps50
  go_wp2_with (first | (go_at_call 54; refine (HV.out).mono ?_; rintro e w1 ⟨rfl, hb1⟩; have HB1 := hide hb1; clear hb1))
  exact bodyPost_ret (v := .tuple #[.int .i64 0, .int .i64 0, .int .i64 2]) (by simp [results, Try.results50, go_sem]) rfl ⟨rfl, HB1.out⟩
def mostN (L : List J4) : Nat := bestV (fun S => (cardF 8 S : Int)) (fitB L) (2 ^ L.length)
def weighN (L : List J4) : Nat := bestV (fun S => wtN L S L.length) (fitB L) (2 ^ L.length)
theorem weighN_lt {L : List J4} (hL : JobsOk L) : weighN L < 256 := by
  have h1 := bestV_le (fun S => wtN L S L.length) (fitB L)
  have h2 : ∀ k, 0 < k → bestV (fun S => wtN L S L.length) (fitB L) k < k := fun k hk => by
    induction k with
    | zero => omega
    | succ k ih =>
      have := h1 k
      unfold bestV
      split <;> omega
  have h3 := h2 (2 ^ L.length) (Nat.two_pow_pos _)
  have := pow256 hL.le
  unfold weighN
  omega
set_option maxHeartbeats 800000 in
theorem most_yes (A : Option Addr) (n c : Nat) (L : List J4) (w : World) (hn : L.length = n) (hlen : n ≤ 9223372036854775807) (hA : JobsA w w.heap.size A L) (hv : jobsB L = true) :
    Calls Try.prog 49 #[.slice A n c] w fun e w' => e = .returned (.tuple #[.int .i64 (mostN L : Nat), .int .i64 0]) ∧ Below w.heap.size w w' := by
  have hmf : ∀ (fn : Fn) (first cap : Array Value) (w : World), (Instr.makeFunc fn first cap).run Try.prog w = .ok (.func fn first cap) w := fun _ _ _ _ => rfl
  have HV := hide (jvalid_any A n c L w hn hlen hA)
  rw [hv] at HV
  have HD := hide (fun w1 (hb : Below w.heap.size w w1) => best_most A n c L w1 hn (jobsB_iff.1 hv) (hA.next hb))
  rw [show mostN L = bestV (fun S => (cardF 8 S : Int)) (fitB L) (2 ^ n) by rw [mostN, hn]]
  generalize bestV (fun S => (cardF 8 S : Int)) (fitB L) (2 ^ n) = b at *
  clear hv hA hn
  go_enter Try.func49, Try.ntmps49
  go_wp2_with (first
    | (go_at_call 54; refine (HV.out).mono ?_; rintro e w1 ⟨rfl, hb1⟩; have HB1 := hide hb1; clear hb1)
    | (go_at_call 71; refine (HD.out _ HB1.out).mono ?_; rintro e w2 ⟨rfl, h4⟩; have H4 := hide h4; clear h4))
  go_ret2
  exact ⟨rfl, HB1.out.trans (H4.out.mono HB1.out.size)⟩
set_option maxHeartbeats 800000 in
theorem weigh_yes (A : Option Addr) (n c : Nat) (L : List J4) (w : World) (hn : L.length = n) (hlen : n ≤ 9223372036854775807) (hA : JobsA w w.heap.size A L) (hv : jobsB L = true) :
    Calls Try.prog 50 #[.slice A n c] w fun e w' => e = .returned (.tuple #[.int .i64 (weighN L : Nat), .int .i64 (wtN L (weighN L) n), .int .i64 0]) ∧ Below w.heap.size w w' := by
  have hmf : ∀ (fn : Fn) (first cap : Array Value) (w : World), (Instr.makeFunc fn first cap).run Try.prog w = .ok (.func fn first cap) w := fun _ _ _ _ => rfl
  have HV := hide (jvalid_any A n c L w hn hlen hA)
  rw [hv] at HV
  have HD := hide (fun w1 (hb : Below w.heap.size w w1) => best_weight A n c L w1 hn (jobsB_iff.1 hv) (hA.next hb))
  rw [show bestV (fun S => wtN L S L.length) (fitB L) (2 ^ n) = weighN L by rw [weighN, hn]] at HD
  have HE := hide (fun w1 (hb : Below w.heap.size w w1) => weight_any A n c (weighN L) L w1 hn (jobsB_iff.1 hv) (weighN_lt (jobsB_iff.1 hv)) (hA.next hb))
  generalize wtN L (weighN L) n = y at *
  generalize weighN L = b at *
  clear hv hA hn
  go_enter Try.func50, Try.ntmps50
  go_wp2_with (first
    | (go_at_call 54; refine (HV.out).mono ?_; rintro e w1 ⟨rfl, hb1⟩; have HB1 := hide hb1; clear hb1)
    | (go_at_call 71; refine (HD.out _ HB1.out).mono ?_; rintro e w2 ⟨rfl, h4⟩; have H4 := hide h4; clear h4; have H5 := hide (HB1.out.trans (H4.out.mono HB1.out.size)))
    | (go_at_call 74; refine (HE.out _ H5.out).mono ?_; rintro e w3 ⟨rfl, h6⟩; have H6 := hide h6; clear h6))
  exact bodyPost_ret (v := .tuple #[.int .i64 b, .int .i64 y, .int .i64 0]) (by simp [results, Try.results50, go_sem]) rfl ⟨rfl, H5.out.trans (H6.out.mono H5.out.size)⟩
end Go.Proofs.Ytiadineakhcclaa

/-
  dates (plain): the reference's Fits: the least by Due of what is left, again and again.
-/
namespace Go.Proofs.Ytiadineakhcclaa
open Go.RowKit
set_option linter.unusedVariables false
set_option linter.unusedSimpArgs false

theorem if_iff {p q : Prop} [Decidable p] [Decidable q] (h : p ↔ q) (a b : Int) : (if p then a else b) = if q then a else b := by
  by_cases hp : p
  · rw [if_pos hp, if_pos (h.1 hp)]
  · rw [if_neg hp, if_neg (fun hq => hp (h.2 hq))]
/-- The least of T by Due among the first k, or -1. -/
def leF (L : List J4) (T : Nat) : Nat → Int
  | 0 => -1
  | k + 1 => if T.testBit k = true ∧ (leF L T k < 0 ∨ (L.getD k j0).d < (L.getD (leF L T k).toNat j0).d) then (k : Int) else leF L T k
theorem leF_spec (L : List J4) (T : Nat) : ∀ k, (leF L T k = -1 ∧ ∀ i, i < k → T.testBit i = false) ∨ ∃ a : Nat, leF L T k = a ∧ a < k ∧ T.testBit a = true ∧ ∀ i, i < k → T.testBit i = true → leK (due L) a i
  | 0 => .inl ⟨rfl, fun i hi => by omega⟩
  | k + 1 => by
      unfold leF
      rcases leF_spec L T k with ⟨h1, h2⟩ | ⟨a, h1, h2, h3, h4⟩
      · rw [h1]
        by_cases hb : T.testBit k = true
        · rw [if_pos ⟨hb, .inl (by omega)⟩]
          refine .inr ⟨k, rfl, by omega, hb, fun i hi hbi => ?_⟩
          by_cases e : i = k
          · exact .inr e.symm
          · rw [h2 i (by omega)] at hbi; cases hbi
        · rw [if_neg (fun h => hb h.1)]
          refine .inl ⟨rfl, fun i hi => ?_⟩
          by_cases e : i = k
          · subst e; exact Bool.eq_false_iff.2 hb
          · exact h2 i (by omega)
      · rw [h1, Int.toNat_natCast]
        by_cases hb : T.testBit k = true ∧ (L.getD k j0).d < (L.getD a j0).d
        · rw [if_pos ⟨hb.1, .inr hb.2⟩]
          refine .inr ⟨k, rfl, by omega, hb.1, fun i hi hbi => ?_⟩
          by_cases e : i = k
          · exact .inr e.symm
          · have h5 := h4 i (by omega) hbi
            have h6 : due L k < due L a := hb.2
            unfold leK ltK at h5 ⊢
            rcases h5 with h5 | h5
            · left; omega
            · subst h5; left; omega
        · rw [if_neg (fun h => hb ⟨h.1, by rcases h.2 with h | h; omega; exact h⟩)]
          refine .inr ⟨a, rfl, by omega, h3, fun i hi hbi => ?_⟩
          by_cases e : i = k
          · subst e
            have h6 : ¬ due L i < due L a := fun h => hb ⟨hbi, h⟩
            unfold leK ltK
            left; omega
          · exact h4 i (by omega) hbi
/-- What the reference's Fits holds after k rounds. -/
structure RF (L : List J4) (S k T : Nat) (now : Int) : Prop where
  sub : ∀ i, T.testBit i = true → S.testBit i = true
  lt : T < 2 ^ 8
  now_ : now = sumF (fun j => if S.testBit j = true ∧ T.testBit j = false then (L.getD j j0).t else 0) L.length
  fit : ∀ i, i < L.length → S.testBit i = true → T.testBit i = false → workK L S i ≤ (L.getD i j0).d
  before : ∀ i j, S.testBit i = true → T.testBit i = false → T.testBit j = true → i < L.length → j < L.length → ltK (due L) i j
  card : cardF L.length T + k ≤ L.length
theorem RF.zero {L : List J4} {S : Nat} (hS : S < 256) : RF L S 0 S 0 := by
  have hno : ∀ i, ¬ (S.testBit i = true ∧ S.testBit i = false) := fun i h => by rw [h.1] at h; cases h.2
  refine ⟨fun _ h => h, hS, ?_, fun i _ h1 h2 => absurd ⟨h1, h2⟩ (hno i), fun i j h1 h2 => absurd ⟨h1, h2⟩ (hno i), by have := cardF_le L.length S; omega⟩
  have : ∀ n, sumF (fun j => if S.testBit j = true ∧ S.testBit j = false then (L.getD j j0).t else 0) n = 0 := fun n => by
    induction n with
    | zero => rfl
    | succ n ih => rw [sumF, ih, if_neg (hno n)]; omega
  exact (this _).symm
theorem RF.bd {L : List J4} {S k T : Nat} {now : Int} (h : RF L S k T now) (hL : JobsOk L) : 0 ≤ now ∧ now ≤ 160 := by
  have : ∀ n, n ≤ L.length → 0 ≤ sumF (fun j => if S.testBit j = true ∧ T.testBit j = false then (L.getD j j0).t else 0) n ∧ sumF (fun j => if S.testBit j = true ∧ T.testBit j = false then (L.getD j j0).t else 0) n ≤ 20 * n := fun n => by
    induction n with
    | zero => intro _; exact ⟨Int.le_refl _, by simp [sumF]⟩
    | succ n ih =>
      intro hn
      obtain ⟨h1, h2⟩ := ih (by omega)
      have h3 := hL.at_ n (by omega)
      rw [sumF]
      split <;> constructor <;> push_cast <;> omega
  have h1 := this L.length (Nat.le_refl _)
  have := hL.le
  rw [h.now_]
  omega
theorem RF.work {L : List J4} {S k T : Nat} {now : Int} (h : RF L S k T now) {a : Nat} (ha : a < L.length) (hb : T.testBit a = true) (hle : ∀ i, i < L.length → T.testBit i = true → leK (due L) a i) : workK L S a = now + (L.getD a j0).t := by
  have h1 := sumF_one (f := fun j => if S.testBit j = true ∧ leK (due L) j a then (L.getD j j0).t else 0) (g := fun j => if S.testBit j = true ∧ T.testBit j = false then (L.getD j j0).t else 0) (i := a) L.length (fun j hj hne => by
    show (if _ then _ else _) = (if _ then _ else _)
    refine if_iff ⟨fun ⟨h2, h3⟩ => ⟨h2, ?_⟩, fun ⟨h2, h3⟩ => ⟨h2, .inl (h.before j a h2 h3 hb hj ha)⟩⟩ _ _
    cases hT : T.testBit j with
    | false => rfl
    | true =>
      have h5 := hle j hj hT
      unfold leK ltK at h3 h5
      omega)
  unfold workK
  rw [h1, if_pos ha, ← h.now_]
  rw [if_pos ⟨h.sub a hb, .inr rfl⟩, if_neg (by rw [hb]; intro h; cases h.2)]
  omega
theorem RF.next {L : List J4} {S k T : Nat} {now : Int} (h : RF L S k T now) {a : Nat} (ha : a < L.length) (hb : T.testBit a = true) (hle : ∀ i, i < L.length → T.testBit i = true → leK (due L) a i) (hd : now + (L.getD a j0).t ≤ (L.getD a j0).d) (h8 : a < 8) :
    RF L S (k + 1) (sdiff T (2 ^ a)) (now + (L.getD a j0).t) := by
  have hbit : ∀ i, (sdiff T (2 ^ a)).testBit i = (T.testBit i && !decide (a = i)) := fun i => by rw [testBit_sdiff, Nat.testBit_two_pow]
  have hone : ∀ i, (sdiff T (2 ^ a)).testBit i = false → T.testBit i = false ∨ i = a := fun i hi => by
    rw [hbit] at hi
    cases hT : T.testBit i with
    | false => exact .inl rfl
    | true => rw [hT] at hi; simp at hi; exact .inr hi.symm
  have htwo : ∀ i, (sdiff T (2 ^ a)).testBit i = true → T.testBit i = true ∧ i ≠ a := fun i hi => by
    rw [hbit] at hi; simp at hi; exact ⟨hi.1, fun e => hi.2 e.symm⟩
  have hw := h.work ha hb hle
  refine ⟨fun i hi => h.sub i (htwo i hi).1, sdiff_lt _ _ _ h.lt (Nat.pow_lt_pow_right (by decide) h8), ?_, fun i hi h1 h2 => ?_, fun i j h1 h2 h3 hi hj => ?_, ?_⟩
  · have h1 := sumF_one (f := fun j => if S.testBit j = true ∧ (sdiff T (2 ^ a)).testBit j = false then (L.getD j j0).t else 0) (g := fun j => if S.testBit j = true ∧ T.testBit j = false then (L.getD j j0).t else 0) (i := a) L.length (fun j hj hne => by
      show (if _ then _ else _) = (if _ then _ else _)
      refine if_iff ⟨fun ⟨h2, h3⟩ => ⟨h2, ?_⟩, fun ⟨h2, h3⟩ => ⟨h2, by rw [hbit, h3]; rfl⟩⟩ _ _
      rcases hone j h3 with h4 | h4
      · exact h4
      · exact absurd h4 hne)
    rw [h1, if_pos ha, ← h.now_, if_pos ⟨h.sub a hb, by rw [hbit]; simp⟩, if_neg (by rw [hb]; intro h; cases h.2)]
    omega
  · rcases hone i h2 with h3 | h3
    · exact h.fit i hi h1 h3
    · subst h3; rw [hw]; exact hd
  · obtain ⟨h4, h5⟩ := htwo j h3
    rcases hone i h2 with h6 | h6
    · exact h.before i j h1 h6 h4 hi hj
    · subst h6
      rcases hle j hj h4 with h7 | h7
      · exact h7
      · exact absurd h7.symm h5
  · have := cardF_drop (n := L.length) ha hb
    have := h.card
    omega
theorem RF.no {L : List J4} {S k T : Nat} {now : Int} (h : RF L S k T now) {a : Nat} (ha : a < L.length) (hb : T.testBit a = true) (hle : ∀ i, i < L.length → T.testBit i = true → leK (due L) a i) (hd : ¬ now + (L.getD a j0).t ≤ (L.getD a j0).d) : fitB L S = false := by
  rw [fitB, decide_eq_false_iff_not]
  intro hf
  have := hf a ha (h.sub a hb)
  rw [h.work ha hb hle] at this
  exact hd this
theorem RF.yes {L : List J4} {S k T : Nat} {now : Int} (h : RF L S k T now) (he : ∀ i, i < L.length → T.testBit i = false) : fitB L S = true := by
  rw [fitB, decide_eq_true_iff]
  exact fun i hi hb => h.fit i hi hb (he i hi)
theorem RF.end_ {L : List J4} {S T : Nat} {now : Int} (h : RF L S L.length T now) : fitB L S = true := by
  refine h.yes fun i hi => ?_
  cases hT : T.testBit i with
  | false => rfl
  | true =>
    have h1 := cardF_drop (n := L.length) hi hT
    have := h.card
    omega
end Go.Proofs.Ytiadineakhcclaa

/-
  dates: the reference's Fits.
-/
namespace Go.Proofs.Ytiadineakhcclaa
open Go.RowKit
set_option linter.unusedVariables false
set_option linter.unusedSimpArgs false

set_option maxRecDepth 100000 in
set_option maxHeartbeats 1600000 in
theorem rfits_any (A : Option Addr) (n c S : Nat) (L : List J4) (w : World) (hn : L.length = n) (hL : JobsOk L) (hS : S < 256) (hA : JobsA w w.heap.size A L) :
    Calls Try.prog 75 #[.slice A n c, .int .i64 (S : Nat)] w fun e w' => e = .returned (.bool (fitB L S)) ∧ Below w.heap.size w w' := by
  have h8 : n ≤ 8 := by rw [← hn]; exact hL.le
  have HA := hide hA
  have HL := hide hL
  have HN := hide hn
  have HR0 := hide (RF.zero (L := L) hS)
  clear hA hL hn
  go_enter Try.func75, Try.ntmps75
  go_wp2
  go_loopw [1, 5, 11] (fun v1 v5 v11 wr => ∃ (k T : Nat) (now : Int), k ≤ n ∧ v11 = .int .i64 k ∧ v1 = .int .i64 (T : Nat) ∧ v5 = .int .i64 now ∧ Hid (RF L S k T now) ∧ Below w.heap.size w wr) (fun _ _ v _ => n - (intOf v).toNat)
  case atStart => exact ⟨0, S, 0, Nat.zero_le _, rfl, rfl, rfl, HR0, Below.refl _ _⟩
  case round =>
    obtain ⟨k, T, now, hk, rfl, rfl, rfl, HR, hb⟩ := hrel
    have HB := hide hb
    obtain ⟨w1, rfl⟩ : ∃ w1 : World, w1 = wr := ⟨_, rfl⟩
    by_cases hlt : k < n
    · have hkn : (k : Int) < (n : Int) := by omega
      have hT8 := HR.out.lt
      have hT62 : T < 2 ^ 62 := Nat.lt_trans hT8 (by decide)
      have hbd := HR.out.bd HL.out
      have hk8 : k ≤ 8 := by omega
      clear hb
      go_wp2
      go_loopw [6, 15] (fun v6 v15 wr => ∃ j : Nat, j ≤ n ∧ v15 = .int .i64 j ∧ v6 = .int .i64 (leF L T j) ∧ Below w.heap.size w wr) (fun _ v _ => n - (intOf v).toNat)
      case atStart => exact ⟨0, Nat.zero_le _, rfl, rfl, HB.out⟩
      case round =>
        obtain ⟨j, hj, rfl, rfl, hb2⟩ := hrel
        have HB2 := hide hb2
        obtain ⟨w2, rfl⟩ : ∃ w2 : World, w2 = wr := ⟨_, rfl⟩
        by_cases hjl : j < n
        · have hjn : (j : Int) < (n : Int) := by omega
          have hj8 : j ≤ 8 := by omega
          obtain ⟨q, o, t1, r1, d1, u1, rfl, hq, ha0, ha1, ha2, ha3, hx1⟩ := (HA.out.next hb2).at_ (k := j) (by rw [HN.out]; exact hjl)
          have HST := hide (show leF L T (j + 1) = if T.testBit j = true ∧ (leF L T j < 0 ∨ (L.getD j j0).d < (L.getD (leF L T j).toNat j0).d) then (j : Int) else leF L T j from rfl)
          have HBW : Hid (∀ o q, Below w.heap.size w ((w2.alloc o).drewN q)) := fun o q => below_drewN (hb2.alloc hb2.size _) q
          have hS1 := shr_test T j hT62
          rw [hx1.out] at HST
          cases hbt : T.testBit j with
          | false =>
            rw [hbt] at hS1 HST
            have HV : Hid (leF L T j = leF L T (j + 1)) := hide (by rw [HST.out]; simp)
            clear hbt hb2 hx1 HST
            go_wp2
            go_quiet (fail)
            go_wp2
            go_roundw
            case rel => exact ⟨j + 1, by omega, by go_num, by rw [HV.out], HBW.out _ _⟩
            case measure => simp [intOf] <;> omega
          | true =>
            rw [hbt] at hS1 HST
            rcases leF_spec L T j with ⟨h1, h2⟩ | ⟨a, h1, h2, h3, h4⟩
            · have HV : Hid ((j : Int) = leF L T (j + 1)) := hide (by rw [HST.out, h1]; simp)
              rw [h1]
              clear hbt hb2 hx1 HST h1 h2
              go_wp2
              go_quiet (fail)
              go_wp2
              go_roundw
              case rel => exact ⟨j + 1, by omega, by go_num, by rw [HV.out], HBW.out _ _⟩
              case measure => simp [intOf] <;> omega
            · obtain ⟨q', o', t2, r2, d2, u2, e, hq2, hc0, hc1, hc2, hc3, hx2⟩ := (HA.out.next hb2).at_ (k := a) (by rw [HN.out]; omega)
              injection e with e; injection e with e1 e2
              subst e1; subst e2
              rw [h1, Int.toNat_natCast, hx2.out] at HST
              rw [h1]
              have han : (a : Int) < (n : Int) := by omega
              have ha0' : ¬ (a : Int) < 0 := by omega
              by_cases hdd : d1 < d2
              · have HV : Hid ((j : Int) = leF L T (j + 1)) := hide (by rw [HST.out, if_pos ⟨rfl, .inr hdd⟩])
                clear hbt hb2 hx1 hx2 HST h1 h3 h4
                go_wp2
                go_quiet (fail)
                go_wp2
                go_roundw
                case rel => exact ⟨j + 1, by omega, by go_num, by rw [HV.out], HBW.out _ _⟩
                case measure => simp [intOf] <;> omega
              · have HV : Hid ((a : Int) = leF L T (j + 1)) := hide (by
                  rw [HST.out, if_neg]
                  rintro ⟨_, h | h⟩
                  · omega
                  · exact hdd h)
                clear hbt hb2 hx1 hx2 HST h1 h3 h4
                go_wp2
                go_quiet (fail)
                go_wp2
                go_roundw
                case rel => exact ⟨j + 1, by omega, by go_num, by rw [HV.out], HBW.out _ _⟩
                case measure => simp [intOf] <;> omega
        · obtain rfl : n = j := by omega
          rcases leF_spec L T n with ⟨h1, h2⟩ | ⟨a, h1, h2, h3, h4⟩
          · rw [h1]
            have HY : Hid (fitB L S = true) := HR.out.yes (fun i hi => h2 i (by rw [← HN.out]; exact hi))
            clear h1 h2 hb2
            go_wp2
            go_ret
            refine ⟨?_, HB2.out⟩
            rw [HY.out]; rfl
          · obtain ⟨q, o, t1, r1, d1, u1, rfl, hq, ha0, ha1, ha2, ha3, hx1⟩ := (HA.out.next hb2).at_ (k := a) (by rw [HN.out]; exact h2)
            have hjb := HL.out.at_ a (by rw [HN.out]; exact h2)
            rw [hx1.out] at hjb
            have hjb0 : 1 ≤ t1 ∧ t1 ≤ 20 ∧ 0 ≤ d1 ∧ d1 ≤ 200 := ⟨hjb.1, hjb.2.1, hjb.2.2.2.2.1, hjb.2.2.2.2.2.1⟩
            have han : (a : Int) < (n : Int) := by omega
            have ha0' : ¬ (a : Int) < 0 := by omega
            have hle : ∀ i, i < L.length → T.testBit i = true → leK (due L) a i := fun i hi => h4 i (by rw [← HN.out]; exact hi)
            have hsh : bits .andNot .i64 (T : Int) (wrap64 (2 ^ a)) = ((sdiff T (2 ^ a) : Nat) : Int) := by
              rw [shl_one a (by omega), bandNot_nat _ _ hT62 (Nat.pow_lt_pow_right (by decide) (by omega))]
            have HNO : Hid (¬ now + t1 ≤ d1 → fitB L S = false) := fun h => HR.out.no (a := a) (by rw [HN.out]; exact h2) h3 hle (by rw [hx1.out]; exact h)
            have HYS : Hid (now + t1 ≤ d1 → RF L S (k + 1) (sdiff T (2 ^ a)) (now + t1)) := fun h => by
              have := HR.out.next (a := a) (by rw [HN.out]; exact h2) h3 hle (by rw [hx1.out]; exact h) (by omega)
              rw [hx1.out] at this; exact this
            rw [h1]
            clear h1 h2 h3 h4 hb2 hx1 hjb hle
            by_cases hd : d1 < now + t1
            · have HF : Hid (fitB L S = false) := HNO.out (by omega)
              go_wp2
              go_ret
              refine ⟨?_, HB2.out⟩
              rw [HF.out]; rfl
            · have HF : Hid (RF L S (k + 1) (sdiff T (2 ^ a)) (now + t1)) := HYS.out (by omega)
              go_wp2
              go_roundw
              case rel => exact ⟨k + 1, _, _, by omega, by go_num, rfl, rfl, HF, HB2.out⟩
              case measure => simp [intOf] <;> omega
    · obtain rfl : n = k := by omega
      have HY : Hid (fitB L S = true) := (HN.out.symm ▸ HR.out : RF L S L.length T now).end_
      clear hb
      go_wp2
      go_ret
      refine ⟨?_, HB.out⟩
      rw [HY.out]; rfl
end Go.Proofs.Ytiadineakhcclaa

/-
  dates: the reference's Most and Weigh.
-/
namespace Go.Proofs.Ytiadineakhcclaa
open Go.RowKit
set_option linter.unusedVariables false
set_option linter.unusedSimpArgs false

theorem cardF_hi {S n : Nat} (h : S < 2 ^ n) : ∀ d, cardF (n + d) S = cardF n S
  | 0 => rfl
  | d + 1 => by
      show cardF (n + d) S + (if S.testBit (n + d) then 1 else 0) = _
      rw [cardF_hi h d, Nat.testBit_lt_two_pow (Nat.lt_of_lt_of_le h (Nat.pow_le_pow_right (by decide) (by omega)))]; simp
theorem cardF_8 {S n : Nat} (h : S < 2 ^ n) (hn : n ≤ 8) : cardF 8 S = cardF n S := by
  have := cardF_hi h (8 - n)
  rwa [show n + (8 - n) = 8 by omega] at this
set_option maxRecDepth 100000 in
set_option maxHeartbeats 1600000 in
theorem rmost_any (A : Option Addr) (n c : Nat) (L : List J4) (w : World) (hn : L.length = n) (hL : JobsOk L) (hA : JobsA w w.heap.size A L) :
    Calls Try.prog 52 #[.slice A n c] w fun e w' => e = .returned (.int .i64 (mostN L : Nat)) ∧ Below w.heap.size w w' := by
  have h8 : n ≤ 8 := by rw [← hn]; exact hL.le
  obtain ⟨v, hv⟩ : ∃ v : Nat → Int, v = (fun S => (cardF 8 S : Int)) := ⟨_, rfl⟩
  have HF : Hid (∀ (w' : World) (S : Nat), Below w.heap.size w w' → S < 256 → Calls Try.prog 75 #[.slice A n c, .int .i64 (S : Nat)] w' fun e w'' => e = .returned (.bool (fitB L S)) ∧ Below w.heap.size w w'') := fun w' S hb hS =>
    (rfits_any A n c S L w' hn hL hS (hA.next hb)).mono fun _ _ h => ⟨h.1, hb.trans (h.2.mono hb.size)⟩
  rw [show mostN L = bestV (fun S => (cardF 8 S : Int)) (fitB L) (2 ^ n) by rw [mostN, hn], ← hv]
  obtain ⟨N, hN⟩ : ∃ N, N = 2 ^ n := ⟨_, rfl⟩
  have hN8 : N ≤ 256 := by rw [hN]; exact pow256 h8
  have HV : Hid (∀ S, S < N → v S = (cardF n S : Nat)) := fun S hS => by
    rw [hv]; show ((cardF 8 S : Nat) : Int) = _
    rw [cardF_8 (hN ▸ hS) h8]
  have HV0 : Hid (((0 : Nat) : Int) = v 0) := by rw [hv]; exact hide (by decide)
  have HW : Hid (wrap64 (2 ^ min n 64) = (N : Int)) := by rw [hN]; exact wrap_pow h8
  have HW2 : Hid (wrap64 (2 ^ n) = (N : Int)) := by rw [hN]; exact hide (shl_one n (by omega))
  rw [← hN]
  obtain ⟨f, hf⟩ : ∃ f, f = fitB L := ⟨_, rfl⟩
  rw [← hf] at HF ⊢
  clear hA hL hn hv hN hf
  go_enter Try.func52, Try.ntmps52
  go_wp2
  first | rw [HW.out] | rw [HW2.out]
  go_loopw [3, 4, 11] (fun v3 v4 v11 wr => ∃ (k b m : Nat), k ≤ N ∧ v11 = .int .i64 k ∧ v3 = .int .i64 (b : Nat) ∧ v4 = .int .i64 (m : Nat) ∧ Hid (b = bestV v f k) ∧ Hid ((m : Int) = v b) ∧ Below w.heap.size w wr) (fun _ _ v _ => N - (intOf v).toNat)
  case atStart => exact ⟨0, 0, 0, Nat.zero_le _, rfl, rfl, rfl, hide rfl, HV0, Below.refl _ _⟩
  case round =>
    obtain ⟨k, b, m, hk, rfl, rfl, rfl, HB, HM, hb⟩ := hrel
    obtain ⟨w1, rfl⟩ : ∃ w1 : World, w1 = wr := ⟨_, rfl⟩
    have HB1 := hide hb
    by_cases hlt : k < N
    · have hkn : (k : Int) < (N : Int) := by omega
      have hk8 : k < 256 := by omega
      have hk62 : k < 2 ^ 62 := Nat.lt_trans hk8 (by decide)
      have HS := hide (show bestV v f (k + 1) = if v (bestV v f k) < v k ∧ f k = true then k else bestV v f k from rfl)
      have HVK := hide (HV.out k hlt)
      rw [← HB.out, ← HM.out, HVK.out] at HS
      have HC3 := hide (HF.out w1 k hb hk8)
      obtain ⟨z, hz⟩ : ∃ z, z = f k := ⟨_, rfl⟩
      rw [← hz] at HC3 HS
      clear hz hb
      go_wp2
      go_loopw [6, 16] (fun v6 v16 wr => ∃ (j y : Nat), j ≤ n ∧ v16 = .int .i64 j ∧ v6 = .int .i64 (y : Nat) ∧ Hid (y = cardF j k) ∧ Hid (wr = w1)) (fun _ v _ => n - (intOf v).toNat)
      case atStart => exact ⟨0, 0, Nat.zero_le _, rfl, rfl, hide rfl, hide rfl⟩
      case round =>
        obtain ⟨j, y, hj, rfl, rfl, HY, HWW⟩ := hrel
        by_cases hjl : j < n
        · have hjn : (j : Int) < (n : Int) := by omega
          have hj8 : j ≤ 8 := by omega
          have hy8 : y ≤ 8 := by rw [HY.out]; have := cardF_le j k; omega
          obtain ⟨d, hd⟩ : ∃ d : Nat, d = if k.testBit j = true then 1 else 0 := ⟨_, rfl⟩
          have hbit : bits .and .i64 ((k : Int) / 2 ^ j) 1 = (d : Int) := by rw [hd, shr_bit k j hk62]; split <;> rfl
          have hd1 : d ≤ 1 := by rw [hd]; split <;> omega
          have HYN : Hid (y + d = cardF (j + 1) k) := hide (by rw [HY.out, hd]; rfl)
          clear hd
          go_wp2
          go_roundw
          case rel => exact ⟨j + 1, y + d, by omega, by go_num, by go_num, HYN, HWW⟩
          case measure => simp [intOf] <;> omega
        · obtain rfl : n = j := by omega
          have e9 := HWW.out
          subst e9
          rw [← HY.out] at HS HVK
          by_cases hmy : m < y
          · have hmy2 : (m : Int) < (y : Int) := by omega
            cases z with
            | true =>
              have HT : Hid (k = bestV v f (k + 1)) := hide (by rw [HS.out, if_pos ⟨hmy2, rfl⟩])
              clear HS
              go_wp2_with (go_at_call 75; (with_reducible refine (HC3.out).mono ?_); rintro e w4 ⟨rfl, hb4⟩; have HB4 := hide hb4; clear hb4)
              go_roundw
              case rel => exact ⟨k + 1, k, y, by omega, by go_num, rfl, rfl, HT, hide HVK.out.symm, HB4.out⟩
              case measure => simp [intOf] <;> omega
            | false =>
              have HT : Hid (b = bestV v f (k + 1)) := hide (by rw [HS.out, if_neg (fun h => by cases h.2)])
              clear HS
              go_wp2_with (go_at_call 75; (with_reducible refine (HC3.out).mono ?_); rintro e w4 ⟨rfl, hb4⟩; have HB4 := hide hb4; clear hb4)
              go_roundw
              case rel => exact ⟨k + 1, b, m, by omega, by go_num, rfl, rfl, HT, HM, HB4.out⟩
              case measure => simp [intOf] <;> omega
          · have HT : Hid (b = bestV v f (k + 1)) := hide (by rw [HS.out, if_neg (fun h => by omega)])
            clear HS
            go_wp2
            go_roundw
            case rel => exact ⟨k + 1, b, m, by omega, by go_num, rfl, rfl, HT, HM, HB1.out⟩
            case measure => simp [intOf] <;> omega
    · obtain rfl : N = k := by omega
      clear hb
      go_wp2
      go_ret
      exact ⟨by rw [← HB.out]; rfl, HB1.out⟩
end Go.Proofs.Ytiadineakhcclaa

/-
  dates (plain): with the weight 1 for all Weigh is Most; the bits of a set, one by one.
-/
namespace Go.Proofs.Ytiadineakhcclaa
open Go.RowKit
set_option linter.unusedVariables false
set_option linter.unusedSimpArgs false

def w1J (j : J4) : J4 := ⟨j.t, j.r, j.d, 1⟩
theorem wt_ones {L : List J4} (S : Nat) : ∀ k, k ≤ L.length → wtN (L.map w1J) S k = (cardF k S : Nat)
  | 0, _ => rfl
  | k + 1, h => by
      show wtN (L.map w1J) S k + (if S.testBit k = true then ((L.map w1J).getD k j0).w else 0) = ((cardF k S + if S.testBit k = true then 1 else 0 : Nat) : Int)
      have e : ((L.map w1J).getD k j0).w = 1 := by rw [List.getD_eq_getElem?_getD, List.getElem?_map, List.getElem?_eq_getElem (by omega)]; rfl
      rw [wt_ones S k (by omega), e]
      split <;> push_cast <;> omega
theorem bestV_congr {v v' : Nat → Int} {f : Nat → Bool} {N : Nat} (h : ∀ S, S < N → v S = v' S) : ∀ k, k ≤ N → bestV v f k = bestV v' f k
  | 0, _ => rfl
  | k + 1, hk => by
      have ih := bestV_congr (f := f) h k (by omega)
      have := bestV_le v' f k
      unfold bestV
      rw [ih, h k (by omega), h _ (by omega)]
theorem ones_same {L : List J4} (hL : L.length ≤ 8) : weighN (L.map w1J) = mostN (L.map w1J) := by
  unfold weighN mostN
  refine bestV_congr (fun S hS => ?_) _ (Nat.le_refl _)
  rw [List.length_map] at hS ⊢
  rw [wt_ones S _ (Nat.le_refl _), cardF_8 hS hL]
theorem ones_wt {L : List J4} (hL : L.length ≤ 8) (hJ : JobsOk (L.map w1J)) : wtN (L.map w1J) (weighN (L.map w1J)) L.length = (cardF 8 (mostN (L.map w1J)) : Nat) := by
  have h2 : ∀ k, 0 < k → bestV (fun S => wtN (L.map w1J) S (L.map w1J).length) (fitB (L.map w1J)) k < k := fun k hk => by
    induction k with
    | zero => omega
    | succ k ih =>
      have := bestV_le (fun S => wtN (L.map w1J) S (L.map w1J).length) (fitB (L.map w1J)) k
      unfold bestV
      split <;> omega
  have h3 := h2 _ (Nat.two_pow_pos (L.map w1J).length)
  rw [wt_ones _ _ (Nat.le_refl _), ← ones_same hL, cardF_8 (n := L.length) _ hL]
  rw [List.length_map] at h3
  unfold weighN
  rw [List.length_map]
  exact h3
theorem bestV_lt (v : Nat → Int) (f : Nat → Bool) : ∀ k, 0 < k → bestV v f k < k := fun k hk => by
  induction k with
  | zero => omega
  | succ k ih =>
    have := bestV_le v f k
    unfold bestV
    split <;> omega
theorem mostN_lt {L : List J4} (h : L.length ≤ 8) : mostN L < 256 := Nat.lt_of_lt_of_le (bestV_lt _ _ _ (Nat.two_pow_pos _)) (pow256 h)
theorem drop_one : ∀ T : Nat, T < 256 → 0 < T → cardF 8 (T &&& (T - 1)) + 1 = cardF 8 T := by decide +kernel
end Go.Proofs.Ytiadineakhcclaa

/-
  dates: order; the reference's IsOrder.
-/
namespace Go.Proofs.Ytiadineakhcclaa
open Go.RowKit Go.Deep
set_option linter.unusedVariables false
set_option linter.unusedSimpArgs false

set_option maxHeartbeats 400000 in
theorem jorder_any (J : Option Addr) (jc : Nat) (A : Option Addr) (n c B m : Nat) (l : List Int) (w : World) (hn : l.length = n) (hlen : n ≤ 9223372036854775807) (hm : m ≤ 60) (hA : IntsA w B A l) :
    Calls Try.prog 61 #[.slice J m jc, .slice A n c] w fun e w' => e = .returned (.bool (ordB l m)) ∧ w = w' := by
  subst hn
  generalize hid : ordB l m = r
  have HI := hide hid; clear hid
  go_enter Try.func61, Try.ntmps61
  go_wp2
  go_loop [5, 10] (fun s i => ∃ k M : Nat, k ≤ l.length ∧ i = .int .i64 k ∧ s = .int .i64 M ∧ Hid (MaskOf M (l.take k) ∧ (∀ x ∈ l.take k, 0 ≤ x ∧ x < (m : Int)))) (fun _ i => l.length - (intOf i).toNat)
  case atStart => exact ⟨0, 0, Nat.zero_le _, rfl, rfl, maskOf_nil, fun x hx => by simp at hx⟩
  case round =>
    obtain ⟨k, M, hk, rfl, rfl, HM⟩ := hrel
    have hM62 : M < 2 ^ 60 := Nat.lt_of_lt_of_le (maskOf_lt HM.out.1 HM.out.2) (Nat.pow_le_pow_right (by decide) hm)
    by_cases hlt : k < l.length
    · obtain ⟨b, o, x, rfl, hb, hc, hx⟩ := hA.at_ hlt
      have hmem : Hid (x ∈ l) := by
        rw [← hx.out, List.getD_eq_getElem?_getD, List.getElem?_eq_getElem hlt]; exact List.getElem_mem hlt
      have hbad : ¬ (0 ≤ x ∧ x < (m : Int)) → Hid (r = false) := fun hne => by
        show r = false
        rw [← HI.out]
        cases h : ordB l m with
        | false => rfl
        | true => exact absurd ((ordB_iff.1 h).2.1 x hmem.out) hne
      by_cases h0 : x < 0
      · have hr := hbad (by omega)
        clear hbad
        go_wp2
        go_ret
        exact ⟨by rw [hr.out]; rfl, rfl⟩
      · by_cases h1 : (m : Int) ≤ x
        · have hr := hbad (by omega)
          clear hbad
          go_wp2
          go_ret
          exact ⟨by rw [hr.out]; rfl, rfl⟩
        · obtain ⟨y, rfl⟩ := Int.eq_ofNat_of_zero_le (show 0 ≤ x by omega)
          have hy : y < m := by omega
          clear hbad
          go_wp2
          go_round
          case rel =>
            refine ⟨k + 1, M ||| 2 ^ y, by omega, by go_num, ?_, ?_⟩
            · have h2 : (2 : Nat) ^ y < 2 ^ 60 := Nat.pow_lt_pow_right (by decide) (by omega)
              rw [shl_one y (by omega), bor_nat M _ (by omega) (by omega)]
            · show MaskOf _ _ ∧ _
              rw [take_snoc_int l k hlt, hx.out]
              refine ⟨maskOf_snoc HM.out.1 y, fun z hz => ?_⟩
              simp only [List.mem_append, List.mem_singleton] at hz
              rcases hz with hz | rfl
              · exact HM.out.2 z hz
              · omega
          case measure => simp [intOf]; omega
    · have ht : l.take k = l := List.take_of_length_le (by omega)
      have HM' : Hid (MaskOf M l ∧ (∀ x ∈ l, 0 ≤ x ∧ x < (m : Int))) := by have := HM.out; rw [ht] at this; exact this
      clear ht HM
      by_cases hlm : l.length = m
      · have hB : ((l.length : Int) == (m : Int)) = true := by simp [hlm]
        have HL := hide hlm; clear hlm
        go_wp2
        go_ret
        refine ⟨?_, rfl⟩
        rw [← HI.out]
        have e1 : ordB l m = ((M : Int) == wrap64 (wrap64 (2 ^ m) - 1)) := by
          rw [full_nat m (by omega), Bool.eq_iff_iff, ordB_iff]
          have hf := maskOf_full HM'.out.1 HM'.out.2
          simp only [beq_iff_eq]
          constructor
          · rintro ⟨_, _, h3⟩; rw [hf.2 h3]
          · intro h; exact ⟨HL.out, HM'.out.2, hf.1 (by omega)⟩
        rw [e1]
        rfl
      · have hB : ((l.length : Int) == (m : Int)) = false := by simp; omega
        have HL : Hid (¬ l.length = m) := hlm
        clear hlm
        go_wp2
        go_ret
        refine ⟨?_, rfl⟩
        have e1 : ordB l m = false := by
          cases h : ordB l m with
          | false => rfl
          | true => exact absurd (ordB_iff.1 h).1 HL.out
        rw [← HI.out, e1]
        rfl

theorem nodup_full {l : List Int} {m : Nat} (hd : l.Nodup) (hl : l.length = m) (hb : ∀ x ∈ l, 0 ≤ x ∧ x < (m : Int)) : ∀ x : Nat, x < m → (x : Int) ∈ l := by
  -- the places of a list without repetition: as many as numbers below m
  induction m generalizing l with
  | zero => intro x hx; omega
  | succ m ih =>
    intro x hx
    by_cases hm : (m : Int) ∈ l
    · by_cases e : x = m
      · subst e; exact hm
      · have h1 : (l.erase (m : Int)).Nodup := hd.erase _
        have h2 : (l.erase (m : Int)).length = m := by rw [List.length_erase_of_mem hm, hl]; omega
        have h3 := ih h1 h2 (fun y hy => by
          have h4 := hb y (List.mem_of_mem_erase hy)
          have h5 : y ≠ (m : Int) := fun e => by rw [e] at hy; exact hd.not_mem_erase hy
          omega) x (by omega)
        exact List.mem_of_mem_erase h3
    · exfalso
      -- then all lie below m: too many
      cases l with
      | nil => simp at hl
      | cons a t =>
        have ha := hb a (List.mem_cons_self ..)
        have hd2 : t.Nodup := (List.nodup_cons.1 hd).2
        have hl2 : t.length = m := by simpa using hl
        have h3 := ih hd2 hl2 (fun y hy => by
          have h4 := hb y (List.mem_cons_of_mem _ hy)
          have h5 : y ≠ (m : Int) := fun e => hm (e ▸ List.mem_cons_of_mem _ hy)
          omega)
        have h6 : a ≠ (m : Int) := fun e => hm (e ▸ List.mem_cons_self ..)
        have := h3 a.toNat (by omega)
        rw [show ((a.toNat : Nat) : Int) = a by omega] at this
        exact (List.nodup_cons.1 hd).1 this
set_option maxRecDepth 100000 in
set_option maxHeartbeats 1600000 in
theorem dIsOrder_any (A : Option Addr) (n c m : Nat) (l : List Int) (w : World) (hn : l.length = n) (hlen : n ≤ 9223372036854775807) (hm : m ≤ 8) (hA : IntsA w w.heap.size A l) :
    Calls Try.prog 29 #[.slice A n c, .int .i64 m] w fun e w' => e = .returned (.bool (ordB l m)) ∧ Below w.heap.size w w' := by
  subst hn
  generalize hid : ordB l m = r
  have HI := hide hid; clear hid
  have HA := hide hA; clear hA
  obtain ⟨w1, hw1⟩ : ∃ w1, w1 = w.alloc (.cells #[.bool false, .bool false, .bool false, .bool false, .bool false, .bool false, .bool false, .bool false] 97) := ⟨_, rfl⟩
  have HR1 : Hid (w1.rowIs w.heap.size 97 8 (fun a => .bool (decide ((a : Int) ∈ l.take 0)))) := by
    subst hw1
    refine (World.rowIs_alloc w _ _ (fun _ => .bool false) (fun i hi => ?_)).congr fun a ha => by simp
    have : i < 8 := hi
    match i, this with
    | 0, _ | 1, _ | 2, _ | 3, _ | 4, _ | 5, _ | 6, _ | 7, _ => rfl
  have HB1 : Hid (Below w.heap.size w w1) := by subst hw1; exact (Below.refl _ _).alloc (Nat.le_refl _) _
  go_enter Try.func29, Try.ntmps29
  go_wp2
  rw [← hw1]
  clear hw1
  go_loopw [10] (fun i wr => ∃ k : Nat, k ≤ l.length ∧ i = .int .i64 k ∧ Hid (wr.rowIs w.heap.size 97 8 (fun a => .bool (decide ((a : Int) ∈ l.take k)))) ∧ Hid ((∀ x ∈ l.take k, 0 ≤ x ∧ x < (m : Int)) ∧ (l.take k).Nodup) ∧ Below w.heap.size w wr) (fun i _ => l.length - (intOf i).toNat)
  case atStart => exact ⟨0, Nat.zero_le _, rfl, HR1, ⟨fun x hx => by simp at hx, by simp⟩, HB1.out⟩
  case round =>
    obtain ⟨k, hk, rfl, HR, HM, hb⟩ := hrel
    by_cases hlt : k < l.length
    · obtain ⟨b, o, x, rfl, hbb, hc, hx⟩ := (HA.out.below hb).at_ hlt
      have hmem : Hid (x ∈ l) := by
        rw [← hx.out, List.getD_eq_getElem?_getD, List.getElem?_eq_getElem hlt]; exact List.getElem_mem hlt
      have hbad : ¬ (0 ≤ x ∧ x < (m : Int)) → Hid (r = false) := fun hne => by
        show r = false
        rw [← HI.out]
        cases h : ordB l m with
        | false => rfl
        | true => exact absurd ((ordB_iff.1 h).2.1 x hmem.out) hne
      by_cases h0 : x < 0
      · have hr := hbad (by omega)
        clear hbad
        go_wp2
        go_ret
        exact ⟨by rw [hr.out]; rfl, hb⟩
      · by_cases h1 : (m : Int) ≤ x
        · have hr := hbad (by omega)
          clear hbad
          go_wp2
          go_ret
          exact ⟨by rw [hr.out]; rfl, hb⟩
        · obtain ⟨y, rfl⟩ := Int.eq_ofNat_of_zero_le (show 0 ≤ x by omega)
          have hy : y < m := by omega
          have hy8 : (y : Int) < 8 := by omega
          have hcr := HR.out.cell (i := y) (by omega)
          have hfz := HR.out.frozen y
          have hs3 : w.heap.size < wr.heap.size := HR.out.lt
          have HB := hide hb
          clear hbad hb
          by_cases hin : (y : Int) ∈ l.take k
          · rw [decide_eq_true hin] at hcr
            have hr : Hid (r = false) := by
              show r = false
              rw [← HI.out]
              cases h : ordB l m with
              | false => rfl
              | true =>
                exfalso
                have ho := ordB_iff.1 h
                obtain ⟨j, hj, e⟩ := List.getElem_of_mem hin
                rw [List.length_take] at hj
                rw [List.getElem_take] at e
                have e2 : l[k] = (y : Int) := by rw [getD_cons_of (d := 0) hlt]; exact hx.out
                -- a list of m different numbers below m that names one twice is too long
                have hO := ord_of h
                have hinj := hO.2.inj j k (by rw [← ho.1]; omega) (by rw [← ho.1]; omega)
                have g1 : ∀ i, (hi : i < l.length) → ((toN l).getD i 0 : Int) = l[i] := fun i hi => by
                  rw [getD_cons_of (d := 0) hi, ← up_getD, hO.1]
                have h3 := g1 j (by omega)
                have h4 := g1 k hlt
                have := hinj (by omega)
                omega
            clear hin
            go_wp2
            go_ret
            exact ⟨by rw [hr.out]; rfl, HB.out⟩
          · rw [decide_eq_false hin] at hcr
            have HNI := hide hin
            clear hin
            go_wp2
            go_roundw
            case rel =>
              refine ⟨k + 1, by omega, by go_num, hide ((HR.out.set y _).congr fun a ha => ?_), ?_, HB.out.setCell (Nat.le_refl _) _⟩
              · show (if a = y then Value.bool true else Value.bool (decide ((a : Int) ∈ l.take k))) = Value.bool (decide ((a : Int) ∈ l.take (k + 1)))
                rw [take_snoc_int l k hlt, hx.out]
                by_cases e : a = y
                · subst e; simp
                · have e' : ¬ (a : Int) = (y : Int) := by omega
                  rw [if_neg e]; simp [e']
              · show _ ∧ _
                rw [take_snoc_int l k hlt, hx.out]
                refine ⟨fun z hz => ?_, ?_⟩
                · simp only [List.mem_append, List.mem_singleton] at hz
                  rcases hz with hz | rfl
                  · exact HM.out.1 z hz
                  · omega
                · rw [List.nodup_append]
                  refine ⟨HM.out.2, by simp, fun a ha b hb2 => ?_⟩
                  simp only [List.mem_singleton] at hb2
                  subst hb2
                  exact fun e => HNI.out (e ▸ ha)
            case measure => simp [intOf]; omega
    · have ht : l.take k = l := List.take_of_length_le (by omega)
      have HM' : Hid ((∀ x ∈ l, 0 ≤ x ∧ x < (m : Int)) ∧ l.Nodup) := by have := HM.out; rw [ht] at this; exact this
      clear ht HM
      by_cases hlm : l.length = m
      · have hB : ((l.length : Int) == (m : Int)) = true := by simp [hlm]
        have e1 : Hid (r = true) := by
          show r = true
          rw [← HI.out, ordB_iff]
          refine ⟨hlm, HM'.out.1, fun x hx => ?_⟩
          exact nodup_full HM'.out.2 hlm HM'.out.1 x hx
        clear hlm
        go_wp2
        go_ret
        exact ⟨by rw [e1.out]; rfl, hb⟩
      · have hB : ((l.length : Int) == (m : Int)) = false := by simp; omega
        have e1 : Hid (r = false) := by
          show r = false
          rw [← HI.out]
          cases h : ordB l m with
          | false => rfl
          | true => exact absurd (ordB_iff.1 h).1 hlm
        clear hlm
        go_wp2
        go_ret
        exact ⟨by rw [e1.out]; rfl, hb⟩
end Go.Proofs.Ytiadineakhcclaa
