/-
  The walk of DatesBest.
-/
import Derived.Test.YtiadineakhcclaaDBest
import Derived.Test.YtiadineakhcclaaDWholeA
import Derived.Test.YtiadineakhcclaaDAwake
import Derived.Test.YtiadineakhcclaaDOf
import Derived.Test.YtiadineakhcclaaDRefValid
namespace Go.Proofs.Ytiadineakhcclaa
open Go.RowKit Go.Deep
set_option linter.unusedVariables false
set_option linter.unusedSimpArgs false

set_option maxRecDepth 100000 in
set_option maxHeartbeats 3200000 in
theorem datesBest_any (A : Option Addr) (n c : Nat) (L : List J4) (P : Option Addr) (m pc : Nat) (p : List P3) (w : World) (hn : L.length = n) (hlen : n ≤ 9223372036854775807) (hA : JobsA w w.heap.size A L) (hm : p.length = m) (hmm : m ≤ 9223372036854775807) (hP : PcsA w w.heap.size P p) :
    Calls Try.prog 9 #[.slice A n c, .slice P m pc] w fun e w' => e = .returned (.bool true) ∧ Below w.heap.size w w' := by
  have hmf : ∀ (fn : Fn) (first cap : Array Value) (w : World), (Instr.makeFunc fn first cap).run Try.prog w = .ok (.func fn first cap) w := fun _ _ _ _ => rfl
  obtain ⟨w0, hw0⟩ : ∃ w0, w0 = w.alloc (.cells #[.slice A n c] 22) := ⟨_, rfl⟩
  have hbx : w0.heap[w.heap.size]? = some (.cells #[.slice A n c] 22 (0, 0)) := by rw [hw0]; exact alloc_new _ _ _ rfl
  have HB01 : Hid (Below w.heap.size w w0) := by subst hw0; exact (Below.refl _ _).alloc (Nat.le_refl _) _
  have HQ : Hid (∀ w', Below w0.heap.size w0 w' → w'.cell? ⟨w.heap.size, 0, none⟩ = some (.slice A n c)) := fun w' hb => blk_cell ((hb.block _ (lt_of_block hbx)).trans hbx) 0
  have HB0 : Hid (Below w0.heap.size w0 w0) := hide (Below.refl _ _)
  have HJ0 := hide (hA.next HB01.out)
  have HP0 := hide (hP.next HB01.out)
  have qq0 := HQ.out _ HB0.out
  have HOF := hide (fun w' (hb : Below w0.heap.size w0 w') => of_any A n c L w' hn hlen (HJ0.out.next hb))
  have HRV := hide (fun w' (hb : Below w0.heap.size w0 w') => drefvalid_any A n c L w' hn hlen (HJ0.out.next hb))
  have HPC := hide (fun w' (hb : Below w0.heap.size w0 w') => pieces_any P m pc p w' hm hmm (HP0.out.next hb))
  have HAW := hide (fun w' => awake_any w')
  have HW0 := hide hw0
  clear hw0 hbx
  cases hv : jobsB L
  · have HNP := hide (fun w' X k c' (hk : (L.take 10).length = k) (hX : JobsA w' w'.heap.size X (L.take 10)) => plan_no X k c' (L.take 10) w' hk (by rw [← hk, List.length_take]; omega) hX (by rw [jobsB_take]; exact hv))
    have HNS := hide (fun w' X k c' (hk : (L.take 10).length = k) (hX : JobsA w' w'.heap.size X (L.take 10)) => short_no X k c' (L.take 10) w' hk (by rw [← hk, List.length_take]; omega) hX (by rw [jobsB_take]; exact hv))
    have HND := hide (fun w' X k c' (hk : (L.take 10).length = k) (hX : JobsA w' w'.heap.size X (L.take 10)) => delayA_no X k c' (L.take 10) w' hk (by rw [← hk, List.length_take]; omega) hX (by rw [jobsB_take]; exact hv))
    clear hv hn hA hm hP
    go_enter Try.func9, Try.ntmps9
    go_upto_region 1 with (fail)
    rw [← HW0.out]
    go_wp2_with (first
      | (go_at_call 18; refine (HOF.out _ HB0.out).mono ?_; rintro e w1 ⟨X1, k1, c1, rfl, hk1, hc1, hx1, hb1⟩; have HK1 := hide hk1; have HX1 := hide (jobs_of_own hx1); have HB1 := hide (HB0.out.trans (hb1.mono HB0.out.size)); have qq1 := HQ.out _ HB1.out; clear hx1 hb1 hk1)
      | (go_at_call 24; refine (HNP.out _ X1 k1 c1 HK1.out HX1.out).mono ?_; rintro e w2 ⟨rfl, hb2⟩; have HB2 := hide (HB1.out.trans (hb2.mono HB1.out.size)); have qq2 := HQ.out _ HB2.out; clear hb2)
      | (go_at_call 18; refine (HOF.out _ HB2.out).mono ?_; rintro e w3 ⟨X3, k3, c3, rfl, hk3, hc3, hx3, hb3⟩; have HK3 := hide hk3; have HX3 := hide (jobs_of_own hx3); have HB3 := hide (HB2.out.trans (hb3.mono HB2.out.size)); have qq3 := HQ.out _ HB3.out; clear hx3 hb3 hk3)
      | (go_at_call 17; refine (HNS.out _ X3 k3 c3 HK3.out HX3.out).mono ?_; rintro e w4 ⟨rfl, hb4⟩; have HB4 := hide (HB3.out.trans (hb4.mono HB3.out.size)); have qq4 := HQ.out _ HB4.out; clear hb4)
      | (go_at_call 18; refine (HOF.out _ HB4.out).mono ?_; rintro e w5 ⟨X5, k5, c5, rfl, hk5, hc5, hx5, hb5⟩; have HK5 := hide hk5; have HX5 := hide (jobs_of_own hx5); have HB5 := hide (HB4.out.trans (hb5.mono HB4.out.size)); have qq5 := HQ.out _ HB5.out; clear hx5 hb5 hk5)
      | (go_at_call 25; refine (HND.out _ X5 k5 c5 HK5.out HX5.out).mono ?_; rintro e w6 ⟨rfl, hb6⟩; have HB6 := hide (HB5.out.trans (hb6.mono HB5.out.size)); have qq6 := HQ.out _ HB6.out; clear hb6)
      | (go_at_call 20; refine (HAW.out _).mono ?_; rintro e w7 ⟨rfl, hb7⟩; have HB7 := hide (HB6.out.trans (hb7.mono HB6.out.size)); clear hb7))
    go_ret
    exact ⟨by simp, HB01.out.trans (HB7.out.mono HB01.out.size)⟩
  · have hL := jobsB_iff.1 hv
    have h8 : n ≤ 8 := by rw [← hn]; exact hL.le
    have h1n : 1 ≤ n := by rw [← hn]; exact hL.pos
    have HKN : Hid (∀ k, (L.take 10).length = k → n = k) := fun k h => by rw [hL.take, hn] at h; exact h
    have HYP := hide (fun w' X c' (hX : JobsA w' w'.heap.size X (L.take 10)) => plan_yes X n c' L w' hn hlen (by have := hX; rw [hL.take] at this; exact this) hv)
    have HYS := hide (fun w' X c' (hX : JobsA w' w'.heap.size X (L.take 10)) => short_yes X n c' L w' hn hlen (by have := hX; rw [hL.take] at this; exact this) hv)
    have HYD := hide (fun w' X c' (hX : JobsA w' w'.heap.size X (L.take 10)) => delayA_yes X n c' L w' hn hlen (by have := hX; rw [hL.take] at this; exact this) hv)
    have hbF : PlOk n (planN false L) := hn ▸ planN_ok false hL
    have hbS : PlOk n (planN true L) := hn ▸ planN_ok true hL
    have HCF := hide (fun w' X c' Y q d (hX : JobsA w' w'.heap.size X (L.take 10)) (hq : (planN false L).length = q) (hY : PcsA w' w'.heap.size Y (planN false L)) => check_yes X n c' L Y q d (planN false L) w' hn hlen (by have := hX; rw [hL.take] at this; exact this) hq (by have := hbF.len; omega) hY hv (wholeB_true (planN_whole false hL)))
    have HCS := hide (fun w' X c' Y q d (hX : JobsA w' w'.heap.size X (L.take 10)) (hq : (planN true L).length = q) (hY : PcsA w' w'.heap.size Y (planN true L)) => check_yes X n c' L Y q d (planN true L) w' hn hlen (by have := hX; rw [hL.take] at this; exact this) hq (by have := hbS.len; omega) hY hv (wholeB_true (planN_whole true hL)))
    have HWF := hide (fun w' Z zc (hb : Below w0.heap.size w0 w') (hZ : IntsA w' w'.heap.size Z (finN n (planN false L))) => worst_any A n c L Z zc w.heap.size (finN n (planN false L)) w' hn hL (finTo_len n _ _) (finN_bd hbF) (HJ0.out.next hb) hZ (HQ.out _ hb))
    have HWS := hide (fun w' Z zc (hb : Below w0.heap.size w0 w') (hZ : IntsA w' w'.heap.size Z (finN n (planN true L))) => worst_any A n c L Z zc w.heap.size (finN n (planN true L)) w' hn hL (finTo_len n _ _) (finN_bd hbS) (HJ0.out.next hb) hZ (HQ.out _ hb))
    have e1 : rdelTo L (finN n (planN false L)) n = delN L (planN false L) := by rw [rdelTo_eq hL (finN_bd hbF) n h1n (by rw [hn]; exact Nat.le_refl _), delN, hn]
    have e2 : sumT (finN n (planN true L)) n = endSum L (planN true L) := by rw [endSum, hn]
    rw [e1] at HWF
    rw [e2] at HWS
    have HFB := hide (fun (hw : WholeP L p) => plan_best hL hw)
    have HSB := hide (fun (hw : WholeP L p) => short_best hL hw)
    rw [← sumT_F, ← sumT_F, hn, e2] at HSB
    rw [hn] at HFB
    rw [hv] at HRV
    cases hw : wholeB L p
    · have HCK := hide (fun w' X c' Y q d (hX : JobsA w' w'.heap.size X (L.take 10)) (hq : (p.take 200).length = q) (hY : PcsA w' w'.heap.size Y (p.take 200)) => check_no X n c' L Y q d (p.take 200) w' hn hlen (by have := hX; rw [hL.take] at this; exact this) hq (by rw [← hq, List.length_take]; omega) hY hv (by rw [whole_take hL]; exact hw))
      obtain ⟨pF, hpF⟩ : ∃ pF, planN false L = pF := ⟨_, rfl⟩
      obtain ⟨pS, hpS⟩ : ∃ pS, planN true L = pS := ⟨_, rfl⟩
      clear e1 e2 HFB HSB
      rw [hpF] at HYP HYD HCF HWF
      rw [hpS] at HYS HCS HWS
      clear hpF hpS hbF hbS hv hw hn hA hm hP hL
      generalize delN L pF = dl at *
      generalize endSum L pS = es at *
      generalize finN n pF = enF at *
      generalize finN n pS = enS at *
      generalize sumT enF n = sF at *
      generalize rdelTo L enS n = rS at *
      go_enter Try.func9, Try.ntmps9
      go_upto_region 1 with (fail)
      rw [← HW0.out]
      go_wp2_with (first
        | (go_at_call 18; refine (HOF.out _ HB0.out).mono ?_; rintro e w1 ⟨X1, k1, c1, rfl, hk1, hc1, hx1, hb1⟩; obtain rfl : n = k1 := HKN.out _ hk1; have HX1 := hide (jobs_of_own hx1); have HB1 := hide (HB0.out.trans (hb1.mono HB0.out.size)); have qq1 := HQ.out _ HB1.out; clear hx1 hb1 hk1)
        | (go_at_call 24; refine (HYP.out _ X1 c1 HX1.out).mono ?_; rintro e w2 ⟨P2, m2, c2, rfl, hm2, hc2, hP2, hb2⟩; have HM2 := hide hm2; have HP2 := hide hP2; clear hm2 hP2; have HB2 := hide (HB1.out.trans (hb2.mono HB1.out.size)); have qq2 := HQ.out _ HB2.out; clear hb2)
        | (go_at_call 18; refine (HOF.out _ HB2.out).mono ?_; rintro e w3 ⟨X3, k3, c3, rfl, hk3, hc3, hx3, hb3⟩; obtain rfl : n = k3 := HKN.out _ hk3; have HX3 := hide (jobs_of_own hx3); have HP2 := hide (HP2.out.next hb3); have HB3 := hide (HB2.out.trans (hb3.mono HB2.out.size)); have qq3 := HQ.out _ HB3.out; clear hx3 hb3 hk3)
        | (go_at_call 17; refine (HYS.out _ X3 c3 HX3.out).mono ?_; rintro e w4 ⟨P4, m4, c4, rfl, hm4, hc4, hP4, hb4⟩; have HM4 := hide hm4; have HP4 := hide hP4; clear hm4 hP4; have HP2 := hide (HP2.out.next hb4); have HB4 := hide (HB3.out.trans (hb4.mono HB3.out.size)); have qq4 := HQ.out _ HB4.out; clear hb4)
        | (go_at_call 18; refine (HOF.out _ HB4.out).mono ?_; rintro e w5 ⟨X5, k5, c5, rfl, hk5, hc5, hx5, hb5⟩; obtain rfl : n = k5 := HKN.out _ hk5; have HX5 := hide (jobs_of_own hx5); have HP2 := hide (HP2.out.next hb5); have HP4 := hide (HP4.out.next hb5); have HB5 := hide (HB4.out.trans (hb5.mono HB4.out.size)); have qq5 := HQ.out _ HB5.out; clear hx5 hb5 hk5)
        | (go_at_call 25; refine (HYD.out _ X5 c5 HX5.out).mono ?_; rintro e w6 ⟨rfl, hb6⟩; have HP2 := hide (HP2.out.next hb6); have HP4 := hide (HP4.out.next hb6); have HB6 := hide (HB5.out.trans (hb6.mono HB5.out.size)); have qq6 := HQ.out _ HB6.out; clear hb6)
        | (go_at_call 19; refine (HRV.out _ HB6.out).mono ?_; rintro e w7 ⟨rfl, hb7⟩; have HP2 := hide (HP2.out.next hb7); have HP4 := hide (HP4.out.next hb7); have HB7 := hide (HB6.out.trans (hb7.mono HB6.out.size)); have qq7 := HQ.out _ HB7.out; clear hb7)
        | (go_at_call 18; refine (HOF.out _ HB7.out).mono ?_; rintro e w8 ⟨X8, k8, c8, rfl, hk8, hc8, hx8, hb8⟩; obtain rfl : n = k8 := HKN.out _ hk8; have HX8 := hide (jobs_of_own hx8); have HP2 := hide (HP2.out.next hb8); have HP4 := hide (HP4.out.next hb8); have HB8 := hide (HB7.out.trans (hb8.mono HB7.out.size)); have qq8 := HQ.out _ HB8.out; clear hx8 hb8 hk8)
        | (go_at_call 32; (with_reducible refine (HCF.out _ X8 c8 P2 m2 c2 HX8.out HM2.out HP2.out).mono ?_); rintro e w9 ⟨Z9, z9, rfl, hz9, hI9, hb9⟩; have HI9 := hide hI9; clear hI9; have HP4 := hide (HP4.out.next hb9); have HB9 := hide (HB8.out.trans (hb9.mono HB8.out.size)); have qq9 := HQ.out _ HB9.out; clear hb9)
        | (go_at_call 18; refine (HOF.out _ HB9.out).mono ?_; rintro e w10 ⟨X10, k10, c10, rfl, hk10, hc10, hx10, hb10⟩; obtain rfl : n = k10 := HKN.out _ hk10; have HX10 := hide (jobs_of_own hx10); have HP4 := hide (HP4.out.next hb10); have HI9 := hide (HI9.out.next hb10); have HB10 := hide (HB9.out.trans (hb10.mono HB9.out.size)); have qq10 := HQ.out _ HB10.out; clear hx10 hb10 hk10)
        | (go_at_call 32; (with_reducible refine (HCS.out _ X10 c10 P4 m4 c4 HX10.out HM4.out HP4.out).mono ?_); rintro e w11 ⟨Z11, z11, rfl, hz11, hI11, hb11⟩; have HI11 := hide hI11; clear hI11; have HI9 := hide (HI9.out.next hb11); have HB11 := hide (HB10.out.trans (hb11.mono HB10.out.size)); have qq11 := HQ.out _ HB11.out; clear hb11)
        | ((with_reducible show wpList _ _ _ (⟨some 120, _, _, _, _, _⟩ :: _) _ _); refine wpList_callv1 39 #[.pointer (some ⟨w.heap.size, 0, none⟩)] _ _ _ _ rfl rfl rfl rfl goes_worst ((HWF.out _ Z9 z9 HB11.out HI9.out).mono ?_); rintro e w' ⟨rfl, rfl⟩; refine ⟨_, rfl, ?_⟩)
        | ((with_reducible show wpList _ _ _ (⟨some 126, _, _, _, _, _⟩ :: _) _ _); refine wpList_callv1 39 #[.pointer (some ⟨w.heap.size, 0, none⟩)] _ _ _ _ rfl rfl rfl rfl goes_worst ((HWS.out _ Z11 z11 HB11.out HI11.out).mono ?_); rintro e w' ⟨rfl, rfl⟩; refine ⟨_, rfl, ?_⟩)
        | (go_at_call 18; refine (HOF.out _ HB11.out).mono ?_; rintro e w12 ⟨X12, k12, c12, rfl, hk12, hc12, hx12, hb12⟩; obtain rfl : n = k12 := HKN.out _ hk12; have HX12 := hide (jobs_of_own hx12); have HB12 := hide (HB11.out.trans (hb12.mono HB11.out.size)); have qq12 := HQ.out _ HB12.out; clear hx12 hb12 hk12)
        | (go_at_call 33; refine (HPC.out _ HB12.out).mono ?_; rintro e w13 ⟨Y13, q13, d13, rfl, hq13, hd13, hY13, hb13⟩; have HQ13 := hide hq13; have HY13 := hide (pcs_of_own hY13); have HX12 := hide (HX12.out.next hb13); have HB13 := hide (HB12.out.trans (hb13.mono HB12.out.size)); have qq13 := HQ.out _ HB13.out; clear hY13 hb13 hq13)
        | (go_at_call 32; (with_reducible refine (HCK.out _ X12 c12 Y13 q13 d13 HX12.out HQ13.out HY13.out).mono ?_); rintro e w14 ⟨rfl, hb14⟩; have HB14 := hide (HB13.out.trans (hb14.mono HB13.out.size)); have qq14 := HQ.out _ HB14.out; clear hb14)
        | (go_at_call 20; refine (HAW.out _).mono ?_; rintro e w15 ⟨rfl, hb15⟩; have HB15 := hide (HB14.out.trans (hb15.mono HB14.out.size)); clear hb15))
      go_ret
      exact ⟨by simp, HB01.out.trans (HB15.out.mono HB01.out.size)⟩
    · have hp2 := whole_same hL hw
      have hwt := whole_to hL (wholeB_iff.1 hw)
      have hbP : PlOk n p := ⟨by omega, fun q hq => ⟨(hwt.2 q hq).1, by have := (hwt.2 q hq).2.1; rw [hn] at this; exact this⟩, fun q hq => (hwt.2 q hq).2.2⟩
      have HCK := hide (fun w' X c' Y q d (hX : JobsA w' w'.heap.size X (L.take 10)) (hq : (p.take 200).length = q) (hY : PcsA w' w'.heap.size Y (p.take 200)) => check_yes X n c' L Y q d p w' hn hlen (by have := hX; rw [hL.take] at this; exact this) (by rw [← hp2]; exact hq) (by rw [← hq, List.length_take]; omega) (by have := hY; rw [hp2] at this; exact this) hv hw)
      have HWP := hide (fun w' Z zc (hb : Below w0.heap.size w0 w') (hZ : IntsA w' w'.heap.size Z (finN n p)) => worst_any A n c L Z zc w.heap.size (finN n p) w' hn hL (finTo_len n _ _) (finN_bd hbP) (HJ0.out.next hb) hZ (HQ.out _ hb))
      have g1 := HFB.out (wholeB_iff.1 hw)
      have g2 := HSB.out (wholeB_iff.1 hw)
      obtain ⟨pF, hpF⟩ : ∃ pF, planN false L = pF := ⟨_, rfl⟩
      obtain ⟨pS, hpS⟩ : ∃ pS, planN true L = pS := ⟨_, rfl⟩
      clear e1 e2 HFB HSB
      rw [hpF] at HYP HYD HCF HWF g1
      rw [hpS] at HYS HCS HWS g2
      clear hpF hpS hbF hbS hv hw hn hA hm hP hL hp2 hwt hbP
      generalize finN n p = enP at *
      generalize rdelTo L enP n = rP at *
      generalize sumT enP n = sP at *
      generalize delN L pF = dl at *
      generalize endSum L pS = es at *
      generalize finN n pF = enF at *
      generalize finN n pS = enS at *
      generalize sumT enF n = sF at *
      generalize rdelTo L enS n = rS at *
      have d1 : decide (dl ≤ rP) = true := decide_eq_true g1
      have d2 : decide (es ≤ sP) = true := decide_eq_true g2
      clear g1 g2
      go_enter Try.func9, Try.ntmps9
      go_upto_region 1 with (fail)
      rw [← HW0.out]
      go_wp2_with (first
        | (go_at_call 18; refine (HOF.out _ HB0.out).mono ?_; rintro e w1 ⟨X1, k1, c1, rfl, hk1, hc1, hx1, hb1⟩; obtain rfl : n = k1 := HKN.out _ hk1; have HX1 := hide (jobs_of_own hx1); have HB1 := hide (HB0.out.trans (hb1.mono HB0.out.size)); have qq1 := HQ.out _ HB1.out; clear hx1 hb1 hk1)
        | (go_at_call 24; refine (HYP.out _ X1 c1 HX1.out).mono ?_; rintro e w2 ⟨P2, m2, c2, rfl, hm2, hc2, hP2, hb2⟩; have HM2 := hide hm2; have HP2 := hide hP2; clear hm2 hP2; have HB2 := hide (HB1.out.trans (hb2.mono HB1.out.size)); have qq2 := HQ.out _ HB2.out; clear hb2)
        | (go_at_call 18; refine (HOF.out _ HB2.out).mono ?_; rintro e w3 ⟨X3, k3, c3, rfl, hk3, hc3, hx3, hb3⟩; obtain rfl : n = k3 := HKN.out _ hk3; have HX3 := hide (jobs_of_own hx3); have HP2 := hide (HP2.out.next hb3); have HB3 := hide (HB2.out.trans (hb3.mono HB2.out.size)); have qq3 := HQ.out _ HB3.out; clear hx3 hb3 hk3)
        | (go_at_call 17; refine (HYS.out _ X3 c3 HX3.out).mono ?_; rintro e w4 ⟨P4, m4, c4, rfl, hm4, hc4, hP4, hb4⟩; have HM4 := hide hm4; have HP4 := hide hP4; clear hm4 hP4; have HP2 := hide (HP2.out.next hb4); have HB4 := hide (HB3.out.trans (hb4.mono HB3.out.size)); have qq4 := HQ.out _ HB4.out; clear hb4)
        | (go_at_call 18; refine (HOF.out _ HB4.out).mono ?_; rintro e w5 ⟨X5, k5, c5, rfl, hk5, hc5, hx5, hb5⟩; obtain rfl : n = k5 := HKN.out _ hk5; have HX5 := hide (jobs_of_own hx5); have HP2 := hide (HP2.out.next hb5); have HP4 := hide (HP4.out.next hb5); have HB5 := hide (HB4.out.trans (hb5.mono HB4.out.size)); have qq5 := HQ.out _ HB5.out; clear hx5 hb5 hk5)
        | (go_at_call 25; refine (HYD.out _ X5 c5 HX5.out).mono ?_; rintro e w6 ⟨rfl, hb6⟩; have HP2 := hide (HP2.out.next hb6); have HP4 := hide (HP4.out.next hb6); have HB6 := hide (HB5.out.trans (hb6.mono HB5.out.size)); have qq6 := HQ.out _ HB6.out; clear hb6)
        | (go_at_call 19; refine (HRV.out _ HB6.out).mono ?_; rintro e w7 ⟨rfl, hb7⟩; have HP2 := hide (HP2.out.next hb7); have HP4 := hide (HP4.out.next hb7); have HB7 := hide (HB6.out.trans (hb7.mono HB6.out.size)); have qq7 := HQ.out _ HB7.out; clear hb7)
        | (go_at_call 18; refine (HOF.out _ HB7.out).mono ?_; rintro e w8 ⟨X8, k8, c8, rfl, hk8, hc8, hx8, hb8⟩; obtain rfl : n = k8 := HKN.out _ hk8; have HX8 := hide (jobs_of_own hx8); have HP2 := hide (HP2.out.next hb8); have HP4 := hide (HP4.out.next hb8); have HB8 := hide (HB7.out.trans (hb8.mono HB7.out.size)); have qq8 := HQ.out _ HB8.out; clear hx8 hb8 hk8)
        | (go_at_call 32; (with_reducible refine (HCF.out _ X8 c8 P2 m2 c2 HX8.out HM2.out HP2.out).mono ?_); rintro e w9 ⟨Z9, z9, rfl, hz9, hI9, hb9⟩; have HI9 := hide hI9; clear hI9; have HP4 := hide (HP4.out.next hb9); have HB9 := hide (HB8.out.trans (hb9.mono HB8.out.size)); have qq9 := HQ.out _ HB9.out; clear hb9)
        | (go_at_call 18; refine (HOF.out _ HB9.out).mono ?_; rintro e w10 ⟨X10, k10, c10, rfl, hk10, hc10, hx10, hb10⟩; obtain rfl : n = k10 := HKN.out _ hk10; have HX10 := hide (jobs_of_own hx10); have HP4 := hide (HP4.out.next hb10); have HI9 := hide (HI9.out.next hb10); have HB10 := hide (HB9.out.trans (hb10.mono HB9.out.size)); have qq10 := HQ.out _ HB10.out; clear hx10 hb10 hk10)
        | (go_at_call 32; (with_reducible refine (HCS.out _ X10 c10 P4 m4 c4 HX10.out HM4.out HP4.out).mono ?_); rintro e w11 ⟨Z11, z11, rfl, hz11, hI11, hb11⟩; have HI11 := hide hI11; clear hI11; have HI9 := hide (HI9.out.next hb11); have HB11 := hide (HB10.out.trans (hb11.mono HB10.out.size)); have qq11 := HQ.out _ HB11.out; clear hb11)
        | ((with_reducible show wpList _ _ _ (⟨some 120, _, _, _, _, _⟩ :: _) _ _); refine wpList_callv1 39 #[.pointer (some ⟨w.heap.size, 0, none⟩)] _ _ _ _ rfl rfl rfl rfl goes_worst ((HWF.out _ Z9 z9 HB11.out HI9.out).mono ?_); rintro e w' ⟨rfl, rfl⟩; refine ⟨_, rfl, ?_⟩)
        | ((with_reducible show wpList _ _ _ (⟨some 126, _, _, _, _, _⟩ :: _) _ _); refine wpList_callv1 39 #[.pointer (some ⟨w.heap.size, 0, none⟩)] _ _ _ _ rfl rfl rfl rfl goes_worst ((HWS.out _ Z11 z11 HB11.out HI11.out).mono ?_); rintro e w' ⟨rfl, rfl⟩; refine ⟨_, rfl, ?_⟩)
        | (go_at_call 18; refine (HOF.out _ HB11.out).mono ?_; rintro e w12 ⟨X12, k12, c12, rfl, hk12, hc12, hx12, hb12⟩; obtain rfl : n = k12 := HKN.out _ hk12; have HX12 := hide (jobs_of_own hx12); have HB12 := hide (HB11.out.trans (hb12.mono HB11.out.size)); have qq12 := HQ.out _ HB12.out; clear hx12 hb12 hk12)
        | (go_at_call 33; refine (HPC.out _ HB12.out).mono ?_; rintro e w13 ⟨Y13, q13, d13, rfl, hq13, hd13, hY13, hb13⟩; have HQ13 := hide hq13; have HY13 := hide (pcs_of_own hY13); have HX12 := hide (HX12.out.next hb13); have HB13 := hide (HB12.out.trans (hb13.mono HB12.out.size)); have qq13 := HQ.out _ HB13.out; clear hY13 hb13 hq13)
        | (go_at_call 32; (with_reducible refine (HCK.out _ X12 c12 Y13 q13 d13 HX12.out HQ13.out HY13.out).mono ?_); rintro e w14 ⟨Z14, z14, rfl, hz14, hI14, hb14⟩; have HI14 := hide hI14; clear hI14; have HB14 := hide (HB13.out.trans (hb14.mono HB13.out.size)); have qq14 := HQ.out _ HB14.out; clear hb14)
        | ((with_reducible show wpList _ _ _ (⟨some 160, _, _, _, _, _⟩ :: _) _ _); refine wpList_callv1 39 #[.pointer (some ⟨w.heap.size, 0, none⟩)] _ _ _ _ rfl rfl rfl rfl goes_worst ((HWP.out _ Z14 z14 HB14.out HI14.out).mono ?_); rintro e w' ⟨rfl, rfl⟩; refine ⟨_, rfl, ?_⟩)
        | (go_at_call 20; refine (HAW.out _).mono ?_; rintro e w15 ⟨rfl, hb15⟩; have HB15 := hide (HB14.out.trans (hb15.mono HB14.out.size)); clear hb15))
      go_ret
      exact ⟨by simp, HB01.out.trans (HB15.out.mono HB01.out.size)⟩
end Go.Proofs.Ytiadineakhcclaa
