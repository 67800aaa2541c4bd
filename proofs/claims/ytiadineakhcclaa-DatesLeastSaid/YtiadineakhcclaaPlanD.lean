/-
  dates: plan, by Due.
-/
import Derived.Test.YtiadineakhcclaaDFirst
import Derived.Test.YtiadineakhcclaaInfo
namespace Go.Proofs.Ytiadineakhcclaa
open Go.RowKit
set_option linter.unusedVariables false
set_option linter.unusedSimpArgs false

set_option maxRecDepth 100000 in
set_option maxHeartbeats 3200000 in
theorem planD_any (A : Option Addr) (n c : Nat) (L : List J4) (w : World) (hn : L.length = n) (hL : JobsOk L) (hA : JobsA w w.heap.size A L) :
    Calls Try.prog 55 #[.slice A n c, .iface 88 (.slice A n c)] w fun e w' => ∃ X m c', e = .returned (.slice X m c') ∧ (planN false L).length = m ∧ m ≤ c' ∧ PcsA w' w'.heap.size X (planN false L) ∧ Below w.heap.size w w' := by
  have hme : ∀ w, (method 245 88 (.slice A n c) ((Try.t91.methods[0]?.map (·.name)).getD "")).run Try.prog w = .ok (109, (.slice A n c)) w := fun _ => by kernel_rfl
  simp only [Try.t91, List.getElem?_toArray, List.getElem?_cons_zero, Option.map_some, Option.getD_some] at hme
  have h8 : n ≤ 8 := by rw [← hn]; exact hL.le
  have h1 : 1 ≤ n := by rw [← hn]; exact hL.pos
  have HN := hide hn
  have HL := hide hL
  have HA := hide hA
  have hmk := run_make_row' (P := Try.prog) 115 3 (.int .i64 0) 8 Try.underlying115 info_int rfl .i64 .i64 n (by omega) (by omega)
  obtain ⟨w1, hw1⟩ : ∃ w1, w1 = w.alloc (.cells (madeCells #[.int .i64 0] n) 3) := ⟨_, rfl⟩
  have HR1 : Hid (w1.rowIs w.heap.size 3 n (fun a => .int .i64 (if a < 0 then (timesOf L).getD a 0 else 0))) := by subst hw1; exact World.rowIs_made w (.int .i64 0) n _
  have HB1 : Hid (Below w.heap.size w w1) := by subst hw1; exact (Below.refl _ _).alloc (Nat.le_refl _) _
  clear hn hL hA
  go_enter Try.func55, Try.ntmps55
  go_wp2
  rw [← hw1]
  clear hw1 hmk
  go_loopw [19] (fun v wr => ∃ k : Nat, k ≤ n ∧ v = .int .i64 k ∧ Hid (wr.rowIs w.heap.size 3 n (fun a => .int .i64 (if a < k then (timesOf L).getD a 0 else 0))) ∧ Below w.heap.size w wr) (fun v _ => n - (intOf v).toNat)
  case atStart => exact ⟨0, Nat.zero_le _, rfl, HR1, HB1.out⟩
  case round =>
    obtain ⟨k, hk, rfl, HR, hb⟩ := hrel
    have HB := hide hb
    by_cases hlt : k < n
    · obtain ⟨bj, oj, t, r, d, u, rfl, hbj, hc0, hc1, hc2, hc3, hx⟩ := (HA.out.below hb).at_ (k := k) (by rw [HN.out]; exact hlt)
      have hkn : (k : Int) < (n : Int) := by omega
      have hlr := HR.out.lt
      have hfz := HR.out.frozen k
      have hcr := HR.out.cell hlt
      have HX := hide hx.out
      clear hx hb
      go_wp2
      go_roundw
      case rel =>
        refine ⟨k + 1, by omega, by go_num, hide (((HR.out.set k _).alloc _).congr fun a ha => ?_), (HB.out.setCell (Nat.le_refl _) _).alloc (by simp; exact HB.out.size) _⟩
        show (if a = k then Value.int .i64 t else Value.int .i64 (if a < k then (timesOf L).getD a 0 else 0)) = Value.int .i64 (if a < k + 1 then (timesOf L).getD a 0 else 0)
        by_cases e : a = k
        · subst e; rw [if_pos rfl, if_pos (by omega), timesOf_getD, HX.out]
        · rw [if_neg e]
          by_cases e2 : a < k
          · rw [if_pos e2, if_pos (by omega)]
          · rw [if_neg e2, if_neg (by omega)]
      case measure => simp [intOf] <;> omega
    · obtain rfl : n = k := by omega
      obtain ⟨wq, rfl⟩ : ∃ wq : World, wq = wr := ⟨_, rfl⟩
      have HR2 : Hid (wq.rowIs w.heap.size 3 n (fun a => .int .i64 ((runP false L 0).1.getD a 0))) := HR.out.congr fun a ha => by rw [if_pos ha]; rfl
      clear HR hb
      go_wp2
      go_loopw [5, 9] (fun v5 v9 w2 => ∃ (k : Nat) (X : Option Addr) (m c' : Nat), k ≤ 300 ∧ v9 = .int .i64 k ∧ v5 = .slice X m c' ∧ m ≤ c' ∧ Hid ((runP false L k).2.length = m) ∧ Hid (w2.rowIs w.heap.size 3 n (fun a => .int .i64 ((runP false L k).1.getD a 0))) ∧
          Hid (w2.ownsRow (w.heap.size + 1) 44 3 (.slice X m c') m (pcells (runP false L k).2)) ∧ Below w.heap.size w w2) (fun _ v9 _ => 300 - (intOf v9).toNat)
      case atStart => exact ⟨0, none, 0, 0, by omega, rfl, rfl, Nat.le_refl _, hide rfl, HR2, hide (World.ownsRow_nil _ _ _ _), HB.out⟩
      case round =>
        obtain ⟨k, X, m, c', hk, rfl, rfl, hmc, HM, HT, HO, hb2⟩ := hrel
        obtain ⟨w2, rfl⟩ : ∃ w2 : World, w2 = wr := ⟨_, rfl⟩
        have HB2 := hide hb2
        have HOK := hide (runP_ok false HL.out k)
        have HZE := hide (fun h => runP_end (sh := false) (k := k) HL.out h)
        have HZ3 := hide (fun h => runP_300 (sh := false) (k := k) HL.out h)
        obtain ⟨s, hs⟩ : ∃ s, runP false L k = s := ⟨_, rfl⟩
        have HSN : Hid (runP false L (k + 1) = stepP false L k s) := by rw [← hs]; rfl
        rw [hs] at HM HT HO HOK HZE HZ3
        clear hs
        obtain ⟨t, out⟩ := s
        have HTL : Hid (t.length = n) := by rw [← HN.out]; exact HOK.out.len
        have HIT : Hid (IntsA w2 w2.heap.size (some ⟨w.heap.size, 0, none⟩) t) := ints_of_row HT.out HTL.out.symm (fun a ha => rfl)
        have HMX := hide (maxL_any (some ⟨w.heap.size, 0, none⟩) n n w2.heap.size t w2 HTL.out h8 h1 HIT.out)
        have HMZ := hide (maxTo_z HTL.out h1)
        obtain ⟨mx, hmx⟩ : ∃ mx, maxTo t (n - 1) = mx := ⟨_, rfl⟩
        rw [hmx] at HMX HMZ
        clear hmx hb2
        by_cases hz : AllZ t
        · have hd : decide (0 < mx) = false := by rw [HMZ.out]; exact @decide_eq_false _ (Classical.propDecidable _) (fun h => h hz)
          have HE : Hid (out = planN false L) := HZE.out hz
          have HPO := hide (pcs_of_own HO.out)
          clear hz
          go_wp2_with (go_at_call 79; refine (HMX.out).mono ?_; rintro e w' ⟨rfl, rfl⟩)
          go_ret
          exact ⟨X, m, c', rfl, by rw [← HE.out]; exact HM.out, hmc, by rw [← HE.out]; exact HPO.out, HB2.out⟩
        · have hd : decide (0 < mx) = true := by rw [HMZ.out]; exact @decide_eq_true _ (Classical.propDecidable _) hz
          have hk3 : k < 300 := Nat.lt_of_not_le fun h => hz (HZ3.out h)
          have HF := hide (fun (i g : Nat) (hi : i < n) (hg : g < n) (w9 : World) (hb9 : Below w2.heap.size w2 w9) => jfirst_any A (some ⟨w.heap.size, 0, none⟩) n c n n L i g w9 HN.out h8 hi hg (((HA.out.below HB2.out).more HB2.out.size).next hb9))
          clear hz
          go_wp2_with (go_at_call 79; refine (HMX.out).mono ?_; rintro e w' ⟨rfl, rfl⟩)
          go_loopw [10, 37] (fun v10 v37 w3 => ∃ (i : Nat) (z : Int), i ≤ n ∧ v37 = .int .i64 i ∧ v10 = .int .i64 z ∧ -1 ≤ z ∧ z < i ∧ Hid (z = pkTo false L t k i) ∧ Below w2.heap.size w2 w3) (fun _ v37 _ => n - (intOf v37).toNat)
          case atStart => exact ⟨0, -1, Nat.zero_le _, rfl, rfl, by omega, by omega, hide rfl, Below.refl _ _⟩
          case round =>
            obtain ⟨i, z, hi, rfl, rfl, hz0, hz1, HZ, hb3⟩ := hrel
            obtain ⟨w3, rfl⟩ : ∃ w3 : World, w3 = wr := ⟨_, rfl⟩
            have HB3 := hide hb3
            have HW3 := hide (HB2.out.trans (hb3.mono HB2.out.size))
            by_cases hlt : i < n
            · obtain ⟨bj, oj, t', r, d, u, rfl, hbj, hc0, hc1, hc2, hc3, hx⟩ := (HA.out.below HW3.out).at_ (k := i) (by rw [HN.out]; exact hlt)
              have hin : (i : Int) < (n : Int) := by omega
              obtain ⟨ti, hti⟩ : ∃ ti, t.getD i 0 = ti := ⟨_, rfl⟩
              have hci : w3.cell? ⟨w.heap.size, i, none⟩ = some (.int .i64 ti) := by rw [← hti]; exact (hb3.cell (p := ⟨w.heap.size, i, none⟩) HT.out.lt).trans (HT.out.cell hlt)
              have hs3 : w.heap.size < w3.heap.size := Nat.lt_of_lt_of_le HT.out.lt hb3.size
              have HX := hide hx.out
              have HTI := hide hti
              clear hx hti hb3
              have HBW : Hid (∀ o, Below w2.heap.size w2 (w3.alloc o)) := fun o => HB3.out.alloc HB3.out.size _
              by_cases hr : r ≤ (k : Int)
              · by_cases ht0 : 0 < ti
                · have d1 : decide (r ≤ (k : Int)) = true := decide_eq_true hr
                  have d2 : decide (0 < ti) = true := decide_eq_true ht0
                  by_cases hz : z < 0
                  · have d3 : decide (z < 0) = true := decide_eq_true hz
                    have HNX : Hid ((i : Int) = pkTo false L t k (i + 1)) := by rw [pkTo, if_pos ⟨by rw [HX.out]; exact hr, by rw [HTI.out]; exact ht0, .inl (by rw [← HZ.out]; exact hz)⟩]; exact hide rfl
                    go_wp2
                    go_roundw
                    case rel => exact ⟨i + 1, (i : Int), by omega, by go_num, rfl, by omega, by omega, HNX, HBW.out _⟩
                    case measure => simp [intOf] <;> omega
                  · have d3 : decide (z < 0) = false := decide_eq_false hz
                    obtain ⟨g, rfl⟩ : ∃ g : Nat, z = g := ⟨z.toNat, by omega⟩
                    have HFF := hide (fun w9 hb9 => HF.out i g hlt (by omega) w9 hb9)
                    obtain ⟨q, hq⟩ : ∃ q, q = decide ((L.getD i j0).d < (L.getD g j0).d) := ⟨_, rfl⟩
                    rw [← hq] at HFF
                    have HQ : Hid (q = true ↔ keyP false L t i < keyP false L t g) := by rw [hq, decide_eq_true_eq]; exact Iff.rfl
                    clear hq
                    cases q
                    · have HNX : Hid ((g : Int) = pkTo false L t k (i + 1)) := by
                        rw [pkTo, ← HZ.out, if_neg (fun h => by rcases h.2.2 with h | h; exact hz h; exact absurd (HQ.out.2 h) (by simp))]; exact hide rfl
                      go_wp2_with (go_at_call 109; refine (HFF.out _ (HBW.out _)).mono ?_; rintro e w4 ⟨rfl, hb4⟩; have HB4 := hide hb4; clear hb4)
                      go_roundw
                      case rel => exact ⟨i + 1, (g : Int), by omega, by go_num, rfl, by omega, by omega, HNX, (HBW.out _).trans (HB4.out.mono (HBW.out _).size)⟩
                      case measure => simp [intOf] <;> omega
                    · have HNX : Hid ((i : Int) = pkTo false L t k (i + 1)) := by
                        rw [pkTo, ← HZ.out, if_pos ⟨by rw [HX.out]; exact hr, by rw [HTI.out]; exact ht0, .inr (HQ.out.1 rfl)⟩]; exact hide rfl
                      go_wp2_with (go_at_call 109; refine (HFF.out _ (HBW.out _)).mono ?_; rintro e w4 ⟨rfl, hb4⟩; have HB4 := hide hb4; clear hb4)
                      go_roundw
                      case rel => exact ⟨i + 1, (i : Int), by omega, by go_num, rfl, by omega, by omega, HNX, (HBW.out _).trans (HB4.out.mono (HBW.out _).size)⟩
                      case measure => simp [intOf] <;> omega
                · have d1 : decide (r ≤ (k : Int)) = true := decide_eq_true hr
                  have d2 : decide (0 < ti) = false := decide_eq_false ht0
                  have HNX : Hid (z = pkTo false L t k (i + 1)) := by rw [pkTo, if_neg (fun h => ht0 (by rw [← HTI.out]; exact h.2.1))]; exact HZ.out
                  go_wp2
                  go_roundw
                  case rel => exact ⟨i + 1, z, by omega, by go_num, rfl, by omega, by omega, HNX, HBW.out _⟩
                  case measure => simp [intOf] <;> omega
              · have d1 : decide (r ≤ (k : Int)) = false := decide_eq_false hr
                have HNX : Hid (z = pkTo false L t k (i + 1)) := by rw [pkTo, if_neg (fun h => hr (by have := h.1; rw [HX.out] at this; exact this))]; exact HZ.out
                go_wp2
                go_roundw
                case rel => exact ⟨i + 1, z, by omega, by go_num, rfl, by omega, by omega, HNX, HBW.out _⟩
                case measure => simp [intOf] <;> omega
            · obtain rfl : n = i := by omega
              have HPK : Hid (z = pk false L t k) := by rw [pk, HN.out]; exact HZ.out
              by_cases hz : z < 0
              · have d3 : decide (z < 0) = true := decide_eq_true hz
                have HST : Hid (runP false L (k + 1) = (t, out)) := by rw [HSN.out, stepP]; simp only []; rw [← HPK.out, if_pos hz]; exact hide rfl
                have HR3 := hide (HT.out.of_block (HB3.out.block _ HT.out.lt))
                have HO3 := hide (own_keepS HO.out (fun g hg => HB3.out.block g (own_ltS HO.out g hg).2))
                clear hb3
                go_wp2
                go_roundw
                case rel => exact ⟨k + 1, X, m, c', by omega, by go_num, rfl, hmc, by rw [HST.out]; exact HM, by rw [HST.out]; exact HR3, by rw [HST.out]; exact HO3, HW3.out⟩
                case measure => simp [intOf] <;> omega
              · have d3 : decide (z < 0) = false := decide_eq_false hz
                obtain ⟨g, rfl⟩ : ∃ g : Nat, z = g := ⟨z.toNat, by omega⟩
                have hgn : g < n := by omega
                have hgi : (g : Int) < (n : Int) := by omega
                have HST : Hid (runP false L (k + 1) = (t.set g (t.getD g 0 - 1), addP out g k)) := by rw [HSN.out, stepP]; simp only []; rw [← HPK.out, if_neg hz, Int.toNat_natCast]; exact hide rfl
                have HR3 := hide (HT.out.of_block (HB3.out.block _ HT.out.lt))
                have HO3 := hide (own_keepS HO.out (fun g hg => HB3.out.block g (own_ltS HO.out g hg).2))
                obtain ⟨tg, htg⟩ : ∃ tg, t.getD g 0 = tg := ⟨_, rfl⟩
                have hcg : w3.cell? ⟨w.heap.size, g, none⟩ = some (.int .i64 tg) := by rw [← htg]; exact HR3.out.cell hgn
                have hfg : w3.frozen? ⟨w.heap.size, g, none⟩ = false := HR3.out.frozen g
                have hs3 : w.heap.size < w3.heap.size := HR3.out.lt
                have HR4 := hide (HR3.out.set g (.int .i64 (tg - 1)))
                have HO4 := hide (own_farS (b' := w.heap.size) (i := g) HO3.out (fun x hx h => by have := (own_ltS HO3.out x hx).1; omega) (.int .i64 (tg - 1)))
                have htb : 0 ≤ tg ∧ tg ≤ 20 := by
                  have h1 := HOK.out.bd g (by rw [HN.out]; exact hgn)
                  have h2 := HL.out.at_ g (by rw [HN.out]; exact hgn)
                  simp only [] at h1
                  omega
                obtain ⟨htb0, htb1⟩ := htb
                have HTG := hide htg
                have HB4 : Hid (Below w.heap.size w (w3.setCell ⟨w.heap.size, g, none⟩ (.int .i64 (tg - 1)))) := HW3.out.setCell (Nat.le_refl _) _
                have HR5 : Hid ((w3.setCell ⟨w.heap.size, g, none⟩ (.int .i64 (tg - 1))).rowIs w.heap.size 3 n (fun a => .int .i64 ((t.set g (t.getD g 0 - 1)).getD a 0))) := HR4.out.congr fun a ha => by
                  rw [getD_set_i _ _ _ _ _ (by rw [HTL.out]; exact hgn), HTG.out]
                  by_cases e : a = g
                  · rw [if_pos e, if_pos e]
                  · rw [if_neg e, if_neg e]
                have hmk : m ≤ 300 := by have := HOK.out.num; have := HM.out; simp only [] at *; omega
                have HSZ4 : Hid (w.heap.size + 1 ≤ (w3.setCell ⟨w.heap.size, g, none⟩ (.int .i64 (tg - 1))).heap.size) := HR5.out.lt
                have hone : ∀ u ∈ [Value.int .i64 (g : Nat), .int .i64 (k : Nat), .int .i64 ((k : Int) + 1)], u.oneCell' = true := by intro u hu; simp at hu; rcases hu with rfl | rfl | rfl <;> rfl
                clear htg hb3 HR4
                by_cases hm0 : m = 0
                · subst hm0
                  have HAD : Hid (addP out g k = out ++ [⟨g, k, k + 1⟩]) := by rw [addP, if_neg (fun h => by have := HM.out; omega)]; exact hide rfl
                  go_wp2_with (at_builtin; refine wpList_appS (w0 := w3.setCell ⟨w.heap.size, g, none⟩ (.int .i64 (tg - 1))) _ _ 23 44 (.agg #[.int .i64 0, .int .i64 0, .int .i64 0]) 3 24 rfl rfl Try.underlying23 info_piece rfl (by decide) (w.heap.size + 1) (.slice X 0 c') 0 (pcells out) [.int .i64 (g : Nat), .int .i64 (k : Nat), .int .i64 ((k : Int) + 1)] rfl rfl (by simp [Act.eval]) rfl ⟨_, rfl⟩ HO4.out hone (by omega) (by omega) HSZ4.out ?_; intro ga cg w7 hown1 hd1 hd2 hg1 hgl2 hgrow; have HOW7 := hide hown1; have HG := hide hgrow; clear hown1 hgrow)
                  go_roundw
                  case rel =>
                    refine ⟨k + 1, some ⟨ga, 0, none⟩, 0 + 1, cg, by omega, by go_num, rfl, hd1, ?_, ?_, ?_, HB4.out.grown HG.out HB4.out.size (fun x hx => by have := (own_ltS HO4.out x hx).1; omega)⟩
                    · rw [HST.out, HAD.out]; exact hide (by rw [List.length_append, HM.out]; rfl)
                    · rw [HST.out]; exact hide (HR5.out.of_block (HG.out.block _ HR5.out.lt (fun e => by have := (own_ltS HO4.out _ e.symm).1; omega)))
                    · rw [HST.out, HAD.out, pcells_snoc]; exact HOW7
                  case measure => simp [intOf] <;> omega
                · obtain ⟨q, rfl⟩ : ∃ q, m = q + 1 := ⟨m - 1, by omega⟩
                  obtain ⟨g2, cc, hX, hg2, hcc, hcm, hg2l⟩ := own_formS HO3.out (by omega)
                  injection hX with hX1 _ hX2
                  subst hX1; subst hX2
                  have hql : q < out.length := by rw [HM.out]; omega
                  obtain ⟨jo, fo, to, hp⟩ : ∃ jo fo to, out.getD q p0 = ⟨jo, fo, to⟩ := ⟨_, _, _, rfl⟩
                  have hca := pcells_at out q hql
                  rw [hp] at hca
                  have y0 := own_cell HO4.out hca.1
                  have y2 := own_cell HO4.out hca.2.2
                  have f2 := own_free HO4.out (q * 3 + 2)
                  have HPQ := hide hp
                  have HS4 := hide (own_set HO4.out (i := q * 3 + 2) (by omega) (.int .i64 (to + 1)))
                  have hto : 0 ≤ to ∧ to ≤ 300 := by have h := HOK.out.pc q hql; simp only [] at h; rw [hp] at h; simp only [] at h; omega
                  obtain ⟨hto0, hto1⟩ := hto
                  have hgne : g2 ≠ w.heap.size := by omega
                  have hqi : ((q : Int) + 1) - 1 = q := by omega
                  have hql2 : (q : Int) < (q : Int) + 1 := by omega
                  clear hp hca hql
                  by_cases hjo : jo = (g : Int)
                  · by_cases hto2 : to = (k : Int)
                    · have e1 : (jo == (g : Int)) = true := by simp [hjo]
                      have e2 : (to == (k : Int)) = true := by simp [hto2]
                      have HAD : Hid (addP out g k = out.set q ⟨jo, fo, to + 1⟩) := by
                        rw [addP, HM.out, show q + 1 - 1 = q by omega, HPQ.out, if_pos ⟨by omega, hjo, hto2⟩, hto2]; exact hide rfl
                      clear hjo hto2
                      go_wp2
                      go_roundw
                      case rel =>
                        refine ⟨k + 1, some ⟨g2, 0, none⟩, q + 1, _, by omega, by go_num, rfl, hmc, ?_, ?_, ?_, HB4.out.setCell (show w.heap.size ≤ g2 by omega) _⟩
                        · rw [HST.out, HAD.out]; exact hide (by rw [List.length_set]; exact HM.out)
                        · rw [HST.out]; exact hide (HR5.out.setOther (fun e => hgne e.symm) _)
                        · rw [HST.out, HAD.out]
                          have e9 := pcells_set2 out q (to + 1) (by rw [HM.out]; omega)
                          rw [HPQ.out] at e9
                          rw [← e9]; exact HS4
                      case measure => simp [intOf] <;> omega
                    · have e1 : (jo == (g : Int)) = true := by simp [hjo]
                      have e2 : (to == (k : Int)) = false := by simp [hto2]
                      have HAD : Hid (addP out g k = out ++ [⟨g, k, k + 1⟩]) := by rw [addP, HM.out, show q + 1 - 1 = q by omega, HPQ.out, if_neg (fun h => hto2 h.2.2)]; exact hide rfl
                      clear hjo hto2
                      go_wp2_with (at_builtin; refine wpList_appS (w0 := w3.setCell ⟨w.heap.size, g, none⟩ (.int .i64 (tg - 1))) _ _ 23 44 (.agg #[.int .i64 0, .int .i64 0, .int .i64 0]) 3 24 rfl rfl Try.underlying23 info_piece rfl (by decide) (w.heap.size + 1) (.slice (some ⟨g2, 0, none⟩) (q + 1) c') (q + 1) (pcells out) [.int .i64 (g : Nat), .int .i64 (k : Nat), .int .i64 ((k : Int) + 1)] rfl rfl (by simp [Act.eval]) rfl ⟨_, rfl⟩ HO4.out hone (by omega) (by omega) HSZ4.out ?_; intro ga cg w7 hown1 hd1 hd2 hg1 hgl2 hgrow; have HOW7 := hide hown1; have HG := hide hgrow; clear hown1 hgrow)
                      go_roundw
                      case rel =>
                        refine ⟨k + 1, some ⟨ga, 0, none⟩, (q + 1) + 1, cg, by omega, by go_num, rfl, hd1, ?_, ?_, ?_, HB4.out.grown HG.out HB4.out.size (fun x hx => by have := (own_ltS HO4.out x hx).1; omega)⟩
                        · rw [HST.out, HAD.out]; exact hide (by rw [List.length_append, HM.out]; rfl)
                        · rw [HST.out]; exact hide (HR5.out.of_block (HG.out.block _ HR5.out.lt (fun e => by have := (own_ltS HO4.out _ e.symm).1; omega)))
                        · rw [HST.out, HAD.out, pcells_snoc]; exact HOW7
                      case measure => simp [intOf] <;> omega
                  · have e1 : (jo == (g : Int)) = false := by simp [hjo]
                    have HAD : Hid (addP out g k = out ++ [⟨g, k, k + 1⟩]) := by rw [addP, HM.out, show q + 1 - 1 = q by omega, HPQ.out, if_neg (fun h => hjo h.2.1)]; exact hide rfl
                    clear hjo
                    go_wp2_with (at_builtin; refine wpList_appS (w0 := w3.setCell ⟨w.heap.size, g, none⟩ (.int .i64 (tg - 1))) _ _ 23 44 (.agg #[.int .i64 0, .int .i64 0, .int .i64 0]) 3 24 rfl rfl Try.underlying23 info_piece rfl (by decide) (w.heap.size + 1) (.slice (some ⟨g2, 0, none⟩) (q + 1) c') (q + 1) (pcells out) [.int .i64 (g : Nat), .int .i64 (k : Nat), .int .i64 ((k : Int) + 1)] rfl rfl (by simp [Act.eval]) rfl ⟨_, rfl⟩ HO4.out hone (by omega) (by omega) HSZ4.out ?_; intro ga cg w7 hown1 hd1 hd2 hg1 hgl2 hgrow; have HOW7 := hide hown1; have HG := hide hgrow; clear hown1 hgrow)
                    go_roundw
                    case rel =>
                      refine ⟨k + 1, some ⟨ga, 0, none⟩, (q + 1) + 1, cg, by omega, by go_num, rfl, hd1, ?_, ?_, ?_, HB4.out.grown HG.out HB4.out.size (fun x hx => by have := (own_ltS HO4.out x hx).1; omega)⟩
                      · rw [HST.out, HAD.out]; exact hide (by rw [List.length_append, HM.out]; rfl)
                      · rw [HST.out]; exact hide (HR5.out.of_block (HG.out.block _ HR5.out.lt (fun e => by have := (own_ltS HO4.out _ e.symm).1; omega)))
                      · rw [HST.out, HAD.out, pcells_snoc]; exact HOW7
                    case measure => simp [intOf] <;> omega
end Go.Proofs.Ytiadineakhcclaa
