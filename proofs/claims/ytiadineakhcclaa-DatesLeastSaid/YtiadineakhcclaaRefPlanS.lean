/-
  The reference's plan, by rule 1.
-/
import Derived.Test.YtiadineakhcclaaDFirst
import Derived.Test.YtiadineakhcclaaInfo
namespace Go.Proofs.Ytiadineakhcclaa
open Go.RowKit
set_option linter.unusedVariables false
set_option linter.unusedSimpArgs false

set_option maxRecDepth 100000 in
set_option maxHeartbeats 3200000 in
theorem refplanS_any (A : Option Addr) (n c : Nat) (L : List J4) (w : World) (hn : L.length = n) (hL : JobsOk L) (hA : JobsA w w.heap.size A L) :
    Calls Try.prog 57 #[.slice A n c, .int .i64 1] w fun e w' => ∃ X m c', e = .returned (.slice X m c') ∧ (planN true L).length = m ∧ m ≤ c' ∧ PcsA w' w'.heap.size X (planN true L) ∧ Below w.heap.size w w' := by
  have info_rpiece : (Try.prog.info? 36).map (fun i => (i.zero, i.size, i.bytes)) = some (some (.agg #[.int .i64 0, .int .i64 0, .int .i64 0]), 3, 24) := by kernel_rfl
  have h8 : n ≤ 8 := by rw [← hn]; exact hL.le
  have h1 : 1 ≤ n := by rw [← hn]; exact hL.pos
  have HN := hide hn
  have HL := hide hL
  have HA := hide hA
  have HTB := hide (fun i (hi : i < n) => (hL.at_ i (by rw [hn]; exact hi)))
  have HTL0 : Hid ((timesOf L).length = n) := by rw [timesOf, List.length_map]; exact hn
  clear hn hL hA
  go_enter Try.func57, Try.ntmps57
  go_wp2
  go_loopw [6, 7, 17] (fun v6 v7 v wr => ∃ (k : Nat) (X : Option Addr) (c' : Nat) (z : Int), k ≤ n ∧ v = .int .i64 k ∧ v6 = .slice X k c' ∧ k ≤ c' ∧ v7 = .int .i64 z ∧ 0 ≤ z ∧ z ≤ 20 * k ∧ Hid (z = sumT (timesOf L) k) ∧ Hid (wr.ownsRow w.heap.size 3 1 (.slice X k c') k (((timesOf L).take k).map (Value.int .i64))) ∧ Below w.heap.size w wr) (fun _ _ v _ => n - (intOf v).toNat)
  case atStart => exact ⟨0, none, 0, 0, Nat.zero_le _, rfl, rfl, Nat.le_refl _, rfl, by omega, by omega, hide rfl, hide (World.ownsRow_nil _ _ _ _), Below.refl _ _⟩
  case round =>
    obtain ⟨k, X, cl, z, hk, rfl, rfl, hkc, rfl, hz0, hz1, HZ, HO, hb⟩ := hrel
    have HB := hide hb
    by_cases hlt : k < n
    · obtain ⟨bj, oj, t, r, d, u, rfl, hbj, hc0, hc1, hc2, hc3, hx⟩ := (HA.out.below hb).at_ (k := k) (by rw [HN.out]; exact hlt)
      have hkn : (k : Int) < (n : Int) := by omega
      have htb := HTB.out k hlt
      rw [hx.out] at htb
      simp only [] at htb
      obtain ⟨ht0, ht1, _⟩ := htb
      have HT : Hid ((timesOf L).getD k 0 = t) := by rw [timesOf_getD, hx.out]; exact hide rfl
      have HTK : Hid ((timesOf L).take (k + 1) = (timesOf L).take k ++ [t]) := by
        rw [take_snoc_int _ _ (by rw [HTL0.out]; exact hlt), HT.out]; exact hide rfl
      have HBA : Hid (∀ o, Below w.heap.size w (wr.alloc o)) := fun o => HB.out.alloc HB.out.size _
      have HJC : Hid (∀ w3 : World, (wr.alloc (.cells #[.int .i64 t, .int .i64 r, .int .i64 d, .int .i64 u] 43)).grownBy w3 (Value.slice X k cl).ownBlock → w3.cell? ⟨wr.heap.size, 0, none⟩ = some (.int .i64 t)) := fun w3 hg =>
        hg.cell (a := ⟨wr.heap.size, 0, none⟩) (by rw [World.cell?_alloc_at _ _ _ _ rfl]; rfl) (fun e => by have := (own_ltS HO.out _ e.symm).2; exact absurd this (Nat.lt_irrefl _))
      clear hx hb
      go_wp2_with (at_builtin; refine wpList_app1 (w0 := wr.alloc (.cells #[.int .i64 t, .int .i64 r, .int .i64 d, .int .i64 u] 43)) _ _ 41 3 (.int .i64 0) 8 rfl rfl Try.underlying41 info_int rfl w.heap.size (.slice X k cl) k _ (.int .i64 t) rfl (by simp [Act.eval]) rfl ⟨_, rfl⟩ (HO.out.alloc _) rfl (by omega) (by omega) (HBA.out _).size ?_; intro g2 cg w3 hown1 hd1 hd2 hg1 hgl2 hgrow; have HOW1 := hide hown1; have HG := hide hgrow; have hjc := HJC.out _ hgrow; clear hown1 hgrow)
      go_roundw
      case rel =>
        refine ⟨k + 1, some ⟨g2, 0, none⟩, cg, _, by omega, by go_num, rfl, hd1, rfl, by omega, by omega, hide ?_, ?_, (HBA.out _).grown HG.out (HBA.out _).size (fun q hq => (own_ltS HO.out q hq).1)⟩
        · rw [sumT, HT.out, ← HZ.out]
        · rw [HTK.out]
          exact hide (by rw [List.map_append]; exact HOW1.out)
      case measure => simp [intOf] <;> omega
    · obtain rfl : n = k := by omega
      obtain ⟨wq, rfl⟩ : ∃ wq : World, wq = wr := ⟨_, rfl⟩
      obtain ⟨gl, cc, hX, hgl0, hcc, hcm, hglq⟩ := own_formS HO.out (by omega)
      injection hX with hX1 _ hX2
      subst hX1; subst hX2
      have HTK : Hid ((timesOf L).take n = (runP true L 0).1) := List.take_of_length_le (by rw [HTL0.out]; exact Nat.le_refl _)
      rw [HTK.out] at HO
      have HZ0 : Hid (z = sumT (runP true L 0).1 n) := HZ.out
      clear hb HZ HTK
      go_wp2
      go_loopw [5, 7, 10] (fun v5 v7 v10 w2 => ∃ (k : Nat) (X : Option Addr) (m c' : Nat) (y : Int), k ≤ 300 ∧ v10 = .int .i64 k ∧ v5 = .slice X m c' ∧ m ≤ c' ∧ v7 = .int .i64 y ∧ Hid (y = sumT (runP true L k).1 n) ∧ Hid ((runP true L k).2.length = m) ∧ Hid (w2.ownsRow w.heap.size 3 1 (.slice (some ⟨gl, 0, none⟩) n cl) n ((runP true L k).1.map (Value.int .i64))) ∧
          Hid (w2.ownsRow wq.heap.size 36 3 (.slice X m c') m (pcells (runP true L k).2)) ∧ Below w.heap.size w w2 ∧ Hid (wq.heap.size ≤ w2.heap.size)) (fun _ _ v10 _ => 300 - (intOf v10).toNat)
      case atStart => exact ⟨0, none, 0, 0, z, by omega, rfl, rfl, Nat.le_refl _, rfl, HZ0, hide rfl, HO, hide (World.ownsRow_nil _ _ _ _), HB.out, hide (Nat.le_refl _)⟩
      case round =>
        obtain ⟨k, X, m, c', y, hk, rfl, rfl, hmc, rfl, HSY, HM, HT, HO2, hb2, HWQ⟩ := hrel
        obtain ⟨w2, rfl⟩ : ∃ w2 : World, w2 = wr := ⟨_, rfl⟩
        have HB2 := hide hb2
        have HOK := hide (runP_ok true HL.out k)
        have HZE := hide (fun h => runP_end (sh := true) (k := k) HL.out h)
        have HZ3 := hide (fun h => runP_300 (sh := true) (k := k) HL.out h)
        obtain ⟨s, hs⟩ : ∃ s, runP true L k = s := ⟨_, rfl⟩
        have HSN : Hid (runP true L (k + 1) = stepP true L k s) := by rw [← hs]; rfl
        rw [hs] at HM HT HO2 HOK HZE HZ3 HSY
        clear hs
        obtain ⟨t, out⟩ := s
        have HTL : Hid (t.length = n) := by rw [← HN.out]; exact HOK.out.len
        have HTB2 : Hid (∀ i, i < n → 0 ≤ t.getD i 0 ∧ t.getD i 0 ≤ 20) := fun i hi => by
          have h1 := HOK.out.bd i (by rw [HN.out]; exact hi)
          have h2 := HTB.out i hi
          simp only [] at h1
          omega
        have HIT : Hid (IntsA w2 w2.heap.size (some ⟨gl, 0, none⟩) t) := ints_of_own HT.out
        have hyb : 0 ≤ y ∧ y ≤ 160 := by
          have e := HSY.out
          simp only [] at e
          have h1 := sumT_nonneg (t := t) (n := n) (fun i hi => (HTB2.out i hi).1) n (Nat.le_refl _)
          have h2 := sumT_le (t := t) (n := n) (m := 20) (fun i hi => (HTB2.out i hi).2) n (Nat.le_refl _)
          omega
        obtain ⟨hy0, hy1⟩ := hyb
        have HSZ := hide (sumT_z HTL.out (fun i hi => (HTB2.out i hi).1))
        clear hb2
        by_cases hz : AllZ t
        · have hd : decide (0 < y) = false := decide_eq_false (fun h => by have e := HSY.out; simp only [] at e; have := HSZ.out.2 hz; omega)
          have HE : Hid (out = planN true L) := HZE.out hz
          have HPO := hide (pcs_of_own HO2.out)
          clear hz
          go_wp2
          go_ret
          exact ⟨X, m, c', rfl, by rw [← HE.out]; exact HM.out, hmc, by rw [← HE.out]; exact HPO.out, HB2.out⟩
        · have hyp : 0 < y := Classical.byContradiction fun h => hz (HSZ.out.1 (by have e := HSY.out; simp only [] at e; omega))
          have hd : decide (0 < y) = true := decide_eq_true hyp
          have hk3 : k < 300 := Nat.lt_of_not_le fun h => hz (HZ3.out h)
          clear hz
          go_wp2
          go_loopw [11, 37] (fun v10 v37 w3 => ∃ (i : Nat) (z : Int), i ≤ n ∧ v37 = .int .i64 i ∧ v10 = .int .i64 z ∧ -1 ≤ z ∧ z < i ∧ Hid (z = pkTo true L t k i) ∧ Below w2.heap.size w2 w3) (fun _ v37 _ => n - (intOf v37).toNat)
          case atStart => exact ⟨0, -1, Nat.zero_le _, rfl, rfl, by omega, by omega, hide rfl, Below.refl _ _⟩
          case round =>
            obtain ⟨i, z, hi, rfl, rfl, hz0, hz1, HZ, hb3⟩ := hrel
            obtain ⟨w3, rfl⟩ : ∃ w3 : World, w3 = wr := ⟨_, rfl⟩
            have HB3 := hide hb3
            have HW3 := hide (HB2.out.trans (hb3.mono HB2.out.size))
            by_cases hlt : i < n
            · obtain ⟨bj, oj, t', r, d, u, rfl, hbj, hc0, hc1, hc2, hc3, hx⟩ := ((HA.out.below HW3.out).more (Nat.le_trans HB2.out.size HB3.out.size)).at_ (k := i) (by rw [HN.out]; exact hlt)
              have hin : (i : Int) < (n : Int) := by omega
              obtain ⟨bt, ot, ti, e1, hbt, hci, hti⟩ := (HIT.out.next hb3).at_ (k := i) (by rw [HTL.out]; exact hlt)
              injection e1 with e1; injection e1 with e2 e3
              subst e2; subst e3
              rw [Nat.zero_add] at hci
              have htib := HTB2.out i hlt
              rw [hti.out] at htib
              obtain ⟨htib0, htib1⟩ := htib
              have HX := hide hx.out
              have HTI := hide hti.out
              clear hx hti hb3
              have HBW : Hid (∀ o, Below w2.heap.size w2 (w3.alloc o)) := fun o => HB3.out.alloc HB3.out.size _
              have HBWD : Hid (∀ o q, Below w2.heap.size w2 ((w3.alloc o).drewN q)) := fun o q => below_drewN (HBW.out o) q
              by_cases hr : r ≤ (k : Int)
              · by_cases ht0 : 0 < ti
                · have d1 : decide ((k : Int) < r) = false := decide_eq_false (by omega)
                  have d2 : (ti == 0) = false := by simp; omega
                  by_cases hz : z < 0
                  · have d3 : decide (z < 0) = true := decide_eq_true hz
                    have HNX : Hid ((i : Int) = pkTo true L t k (i + 1)) := by rw [pkTo, if_pos ⟨by rw [HX.out]; exact hr, by rw [HTI.out]; exact ht0, .inl (by rw [← HZ.out]; exact hz)⟩]; exact hide rfl
                    go_wp2
                    go_quiet (fail)
                    go_wp2
                    go_roundw
                    case rel => exact ⟨i + 1, (i : Int), by omega, by go_num, rfl, by omega, by omega, HNX, HBWD.out _ _⟩
                    case measure => simp [intOf] <;> omega
                  · have d3 : decide (z < 0) = false := decide_eq_false hz
                    obtain ⟨g, rfl⟩ : ∃ g : Nat, z = g := ⟨z.toNat, by omega⟩
                    have hgi : (g : Int) < (n : Int) := by omega
                    obtain ⟨bj2, oj2, t2, r2, dg, u2, e1, hbj2, hg0, hg1, hg2, hg3, hxg⟩ := ((HA.out.below HW3.out).more (Nat.le_trans HB2.out.size HB3.out.size)).at_ (k := g) (by rw [HN.out]; omega)
                    injection e1 with e1; injection e1 with e2 e3
                    subst e2; subst e3
                    obtain ⟨bt, ot, tg, e1, hbt2, hcg, htg⟩ := (HIT.out.next HB3.out).at_ (k := g) (by rw [HTL.out]; omega)
                    injection e1 with e1; injection e1 with e2 e3
                    subst e2; subst e3
                    rw [Nat.zero_add] at hcg
                    have HKEY : Hid (keyP true L t i < keyP true L t g ↔ ti < tg) := by
                      unfold keyP; rw [if_pos rfl, if_pos rfl, HTI.out, htg.out]; exact Iff.rfl
                    clear hxg htg
                    by_cases hq : ti < tg
                    · have dq : decide (ti < tg) = true := decide_eq_true hq
                      have HNX : Hid ((i : Int) = pkTo true L t k (i + 1)) := by
                        rw [pkTo, ← HZ.out, if_pos ⟨by rw [HX.out]; exact hr, by rw [HTI.out]; exact ht0, .inr (HKEY.out.2 hq)⟩]; exact hide rfl
                      go_wp2
                      go_quiet (fail)
                      go_wp2
                      go_roundw
                      case rel => exact ⟨i + 1, (i : Int), by omega, by go_num, rfl, by omega, by omega, HNX, HBWD.out _ _⟩
                      case measure => simp [intOf] <;> omega
                    · have dq : decide (ti < tg) = false := decide_eq_false hq
                      have HNX : Hid ((g : Int) = pkTo true L t k (i + 1)) := by
                        rw [pkTo, ← HZ.out, if_neg (fun h => by rcases h.2.2 with h | h; exact hz h; exact hq (HKEY.out.1 h))]; exact hide rfl
                      go_wp2
                      go_quiet (fail)
                      go_wp2
                      go_roundw
                      case rel => exact ⟨i + 1, (g : Int), by omega, by go_num, rfl, by omega, by omega, HNX, HBWD.out _ _⟩
                      case measure => simp [intOf] <;> omega
                · have d1 : decide ((k : Int) < r) = false := decide_eq_false (by omega)
                  have HNX : Hid (z = pkTo true L t k (i + 1)) := by rw [pkTo, if_neg (fun h => ht0 (by rw [← HTI.out]; exact h.2.1))]; exact HZ.out
                  obtain rfl : ti = 0 := by omega
                  clear ht0
                  go_wp2
                  go_roundw
                  case rel => exact ⟨i + 1, z, by omega, by go_num, rfl, by omega, by omega, HNX, HBW.out _⟩
                  case measure => simp [intOf] <;> omega
              · have d1 : decide ((k : Int) < r) = true := decide_eq_true (by omega)
                have HNX : Hid (z = pkTo true L t k (i + 1)) := by rw [pkTo, if_neg (fun h => hr (by have := h.1; rw [HX.out] at this; exact this))]; exact HZ.out
                go_wp2
                go_roundw
                case rel => exact ⟨i + 1, z, by omega, by go_num, rfl, by omega, by omega, HNX, HBW.out _⟩
                case measure => simp [intOf] <;> omega
            · obtain rfl : n = i := by omega
              have HPK : Hid (z = pk true L t k) := by rw [pk, HN.out]; exact HZ.out
              have HR3 := hide (own_keepS HT.out (fun g hg => HB3.out.block g (own_ltS HT.out g hg).2))
              have HO3 := hide (own_keepS HO2.out (fun g hg => HB3.out.block g (own_ltS HO2.out g hg).2))
              by_cases hz : z < 0
              · have d3 : decide (z < 0) = true := decide_eq_true hz
                have HST : Hid (runP true L (k + 1) = (t, out)) := by rw [HSN.out, stepP]; simp only []; rw [← HPK.out, if_pos hz]; exact hide rfl
                clear hb3
                go_wp2
                go_roundw
                case rel => exact ⟨k + 1, X, m, c', y, by omega, by go_num, rfl, hmc, rfl, by rw [HST.out]; exact HSY, by rw [HST.out]; exact HM, by rw [HST.out]; exact HR3, by rw [HST.out]; exact HO3, HW3.out, hide (Nat.le_trans HWQ.out HB3.out.size)⟩
                case measure => simp [intOf] <;> omega
              · have d3 : decide (z < 0) = false := decide_eq_false hz
                obtain ⟨g, rfl⟩ : ∃ g : Nat, z = g := ⟨z.toNat, by omega⟩
                have hgn : g < n := by omega
                have hgi : (g : Int) < (n : Int) := by omega
                obtain ⟨tg, htg⟩ : ∃ tg, t.getD g 0 = tg := ⟨_, rfl⟩
                have HST : Hid (runP true L (k + 1) = (t.set g (tg - 1), addP out g k)) := by rw [HSN.out, stepP]; simp only []; rw [← HPK.out, if_neg hz, Int.toNat_natCast, htg]; exact hide rfl
                have HSU : Hid (y - 1 = sumT (t.set g (tg - 1)) n) := by rw [sumT_set (by rw [HTL.out]; exact hgn), if_pos hgn, ← HSY.out, htg]; exact hide (by omega)
                have hcg : w3.cell? ⟨gl, g, none⟩ = some (.int .i64 tg) := own_cell HR3.out (by rw [List.getElem?_map, List.getElem?_eq_getElem (by rw [HTL.out]; exact hgn), getD_cons_of (d := 0) (by rw [HTL.out]; exact hgn), htg]; rfl)
                have hfg : w3.frozen? ⟨gl, g, none⟩ = false := own_free HR3.out g
                have hs3 : gl < w3.heap.size := (own_ltS HR3.out gl rfl).2
                have HQS : Hid (w.heap.size ≤ wq.heap.size) := hide HB.out.size
                have HQ3 : Hid (wq.heap.size ≤ w3.heap.size) := hide (Nat.le_trans HWQ.out HB3.out.size)
                have HR4 : Hid ((w3.setCell ⟨gl, g, none⟩ (.int .i64 (tg - 1))).ownsRow w.heap.size 3 1 (.slice (some ⟨gl, 0, none⟩) n cl) n ((t.set g (tg - 1)).map (Value.int .i64))) := by
                  rw [List.map_set]; exact hide (own_set HR3.out (by omega) _)
                have HO4 := hide (own_farS (b' := gl) (i := g) HO3.out (fun x hx h => by have := (own_ltS HO3.out x hx).1; omega) (.int .i64 (tg - 1)))
                have htb := HTB2.out g hgn
                rw [htg] at htb
                obtain ⟨htb0, htb1⟩ := htb
                have HTG := hide htg
                have HB4 : Hid (Below w.heap.size w (w3.setCell ⟨gl, g, none⟩ (.int .i64 (tg - 1)))) := HW3.out.setCell (show w.heap.size ≤ gl from hgl0) _
                have hmk : m ≤ 300 := by have := HOK.out.num; have := HM.out; simp only [] at *; omega
                have HSZ4 : Hid (wq.heap.size ≤ (w3.setCell ⟨gl, g, none⟩ (.int .i64 (tg - 1))).heap.size) := by simp; exact HQ3
                have hone : ∀ u ∈ [Value.int .i64 (g : Nat), .int .i64 (k : Nat), .int .i64 ((k : Int) + 1)], u.oneCell' = true := by intro u hu; simp at hu; rcases hu with rfl | rfl | rfl <;> rfl
                clear htg hb3
                by_cases hm0 : m = 0
                · subst hm0
                  have HAD : Hid (addP out g k = out ++ [⟨g, k, k + 1⟩]) := by rw [addP, if_neg (fun h => by have := HM.out; omega)]; exact hide rfl
                  go_wp2_with (at_builtin; refine wpList_appS (w0 := w3.setCell ⟨gl, g, none⟩ (.int .i64 (tg - 1))) _ _ 31 36 (.agg #[.int .i64 0, .int .i64 0, .int .i64 0]) 3 24 rfl rfl Try.underlying31 info_rpiece rfl (by decide) wq.heap.size (.slice X 0 c') 0 (pcells out) [.int .i64 (g : Nat), .int .i64 (k : Nat), .int .i64 ((k : Int) + 1)] rfl rfl (by simp [Act.eval]) rfl ⟨_, rfl⟩ HO4.out hone (by omega) (by omega) HSZ4.out ?_; intro ga cg w7 hown1 hd1 hd2 hg1 hgl2 hgrow; have HOW7 := hide hown1; have HG := hide hgrow; clear hown1 hgrow)
                  go_roundw
                  case rel =>
                    refine ⟨k + 1, some ⟨ga, 0, none⟩, 0 + 1, cg, _, by omega, by go_num, rfl, hd1, rfl, ?_, ?_, ?_, ?_, HB4.out.grown HG.out HB4.out.size (fun x hx => by have := (own_ltS HO4.out x hx).1; have := HQS.out; omega), hide (Nat.le_trans HSZ4.out HG.out.size)⟩
                    · rw [HST.out]; exact HSU
                    · rw [HST.out, HAD.out]; exact hide (by rw [List.length_append, HM.out]; rfl)
                    · rw [HST.out]; exact hide (own_keepS HR4.out (fun x hx => HG.out.block _ (own_ltS HR4.out x hx).2 (fun e => by have h1 := (own_ltS HO4.out _ e.symm).1; have h2 := hglq; have := own_blk hx; omega)))
                    · rw [HST.out, HAD.out, pcells_snoc]; exact HOW7
                  case measure => simp [intOf] <;> omega
                · obtain ⟨q, rfl⟩ : ∃ q, m = q + 1 := ⟨m - 1, by omega⟩
                  obtain ⟨g2, cc, hX, hg2, hcc2, hcm2, hg2l⟩ := own_formS HO3.out (by omega)
                  injection hX with hX1 _ hX2
                  subst hX1; subst hX2
                  have hql : q < out.length := by rw [HM.out]; omega
                  obtain ⟨jo, fo, to, hp⟩ : ∃ jo fo to, out.getD q p0 = ⟨jo, fo, to⟩ := ⟨_, _, _, rfl⟩
                  have hca := pcells_at out q hql
                  rw [hp] at hca
                  have y0 := own_cell HO4.out hca.1
                  have y2 := own_cell HO4.out hca.2.2
                  have f2 := own_free HO4.out (q * 3 + 2)
                  have HPQ := hide hp
                  have HS4 := hide (own_set HO4.out (i := q * 3 + 2) (by omega) (.int .i64 (to + 1)))
                  have hto : 0 ≤ to ∧ to ≤ 300 := by have h := HOK.out.pc q hql; simp only [] at h; rw [hp] at h; simp only [] at h; omega
                  obtain ⟨hto0, hto1⟩ := hto
                  have hgne : g2 ≠ gl := by omega
                  have hqi : ((q : Int) + 1) - 1 = q := by omega
                  have hql2 : (q : Int) < (q : Int) + 1 := by omega
                  clear hp hca hql
                  by_cases hjo : jo = (g : Int)
                  · by_cases hto2 : to = (k : Int)
                    · have e1 : (jo == (g : Int)) = true := by simp [hjo]
                      have e2 : (to == (k : Int)) = true := by simp [hto2]
                      have HAD : Hid (addP out g k = out.set q ⟨jo, fo, to + 1⟩) := by
                        rw [addP, HM.out, show q + 1 - 1 = q by omega, HPQ.out, if_pos ⟨by omega, hjo, hto2⟩, hto2]; exact hide rfl
                      clear hjo hto2
                      go_wp2
                      go_roundw
                      case rel =>
                        refine ⟨k + 1, some ⟨g2, 0, none⟩, q + 1, _, _, by omega, by go_num, rfl, hmc, rfl, ?_, ?_, ?_, ?_, HB4.out.setCell (show w.heap.size ≤ g2 by have := HQS.out; omega) _, by simp; exact HQ3⟩
                        · rw [HST.out]; exact HSU
                        · rw [HST.out, HAD.out]; exact hide (by rw [List.length_set]; exact HM.out)
                        · rw [HST.out]; exact hide (own_farS HR4.out (fun x hx e => hgne (by have := own_blk hx; omega)) _)
                        · rw [HST.out, HAD.out]
                          have e9 := pcells_set2 out q (to + 1) (by rw [HM.out]; omega)
                          rw [HPQ.out] at e9
                          rw [← e9]; exact HS4
                      case measure => simp [intOf] <;> omega
                    · have e1 : (jo == (g : Int)) = true := by simp [hjo]
                      have e2 : (to == (k : Int)) = false := by simp [hto2]
                      have HAD : Hid (addP out g k = out ++ [⟨g, k, k + 1⟩]) := by rw [addP, HM.out, show q + 1 - 1 = q by omega, HPQ.out, if_neg (fun h => hto2 h.2.2)]; exact hide rfl
                      clear hjo hto2
                      go_wp2_with (at_builtin; refine wpList_appS (w0 := w3.setCell ⟨gl, g, none⟩ (.int .i64 (tg - 1))) _ _ 31 36 (.agg #[.int .i64 0, .int .i64 0, .int .i64 0]) 3 24 rfl rfl Try.underlying31 info_rpiece rfl (by decide) wq.heap.size (.slice (some ⟨g2, 0, none⟩) (q + 1) c') (q + 1) (pcells out) [.int .i64 (g : Nat), .int .i64 (k : Nat), .int .i64 ((k : Int) + 1)] rfl rfl (by simp [Act.eval]) rfl ⟨_, rfl⟩ HO4.out hone (by omega) (by omega) HSZ4.out ?_; intro ga cg w7 hown1 hd1 hd2 hg1 hgl2 hgrow; have HOW7 := hide hown1; have HG := hide hgrow; clear hown1 hgrow)
                      go_roundw
                      case rel =>
                        refine ⟨k + 1, some ⟨ga, 0, none⟩, (q + 1) + 1, cg, _, by omega, by go_num, rfl, hd1, rfl, ?_, ?_, ?_, ?_, HB4.out.grown HG.out HB4.out.size (fun x hx => by have := (own_ltS HO4.out x hx).1; have := HQS.out; omega), hide (Nat.le_trans HSZ4.out HG.out.size)⟩
                        · rw [HST.out]; exact HSU
                        · rw [HST.out, HAD.out]; exact hide (by rw [List.length_append, HM.out]; rfl)
                        · rw [HST.out]; exact hide (own_keepS HR4.out (fun x hx => HG.out.block _ (own_ltS HR4.out x hx).2 (fun e => by have h1 := (own_ltS HO4.out _ e.symm).1; have h2 := hglq; have := own_blk hx; omega)))
                        · rw [HST.out, HAD.out, pcells_snoc]; exact HOW7
                      case measure => simp [intOf] <;> omega
                  · have e1 : (jo == (g : Int)) = false := by simp [hjo]
                    have HAD : Hid (addP out g k = out ++ [⟨g, k, k + 1⟩]) := by rw [addP, HM.out, show q + 1 - 1 = q by omega, HPQ.out, if_neg (fun h => hjo h.2.1)]; exact hide rfl
                    clear hjo
                    go_wp2_with (at_builtin; refine wpList_appS (w0 := w3.setCell ⟨gl, g, none⟩ (.int .i64 (tg - 1))) _ _ 31 36 (.agg #[.int .i64 0, .int .i64 0, .int .i64 0]) 3 24 rfl rfl Try.underlying31 info_rpiece rfl (by decide) wq.heap.size (.slice (some ⟨g2, 0, none⟩) (q + 1) c') (q + 1) (pcells out) [.int .i64 (g : Nat), .int .i64 (k : Nat), .int .i64 ((k : Int) + 1)] rfl rfl (by simp [Act.eval]) rfl ⟨_, rfl⟩ HO4.out hone (by omega) (by omega) HSZ4.out ?_; intro ga cg w7 hown1 hd1 hd2 hg1 hgl2 hgrow; have HOW7 := hide hown1; have HG := hide hgrow; clear hown1 hgrow)
                    go_roundw
                    case rel =>
                      refine ⟨k + 1, some ⟨ga, 0, none⟩, (q + 1) + 1, cg, _, by omega, by go_num, rfl, hd1, rfl, ?_, ?_, ?_, ?_, HB4.out.grown HG.out HB4.out.size (fun x hx => by have := (own_ltS HO4.out x hx).1; have := HQS.out; omega), hide (Nat.le_trans HSZ4.out HG.out.size)⟩
                      · rw [HST.out]; exact HSU
                      · rw [HST.out, HAD.out]; exact hide (by rw [List.length_append, HM.out]; rfl)
                      · rw [HST.out]; exact hide (own_keepS HR4.out (fun x hx => HG.out.block _ (own_ltS HR4.out x hx).2 (fun e => by have h1 := (own_ltS HO4.out _ e.symm).1; have h2 := hglq; have := own_blk hx; omega)))
                      · rw [HST.out, HAD.out, pcells_snoc]; exact HOW7
                    case measure => simp [intOf] <;> omega
end Go.Proofs.Ytiadineakhcclaa
