/-
  The walk of DatesPlans.
-/
import Derived.Test.YtiadineakhcclaaDOverV
import Derived.Test.YtiadineakhcclaaDAwake
import Derived.Test.YtiadineakhcclaaDOf
import Derived.Test.YtiadineakhcclaaDRefValid
import Derived.Test.YtiadineakhcclaaDEq
namespace Go.Proofs.Ytiadineakhcclaa
open Go.RowKit Go.Deep
set_option linter.unusedVariables false
set_option linter.unusedSimpArgs false

set_option maxRecDepth 100000 in
set_option maxHeartbeats 3200000 in
theorem datesPlans_any (A : Option Addr) (n c : Nat) (L : List J4) (w : World) (hn : L.length = n) (hlen : n ≤ 9223372036854775807) (hA : JobsA w w.heap.size A L) :
    Calls Try.prog 8 #[.slice A n c] w fun e w' => e = .returned (.bool true) ∧ Below w.heap.size w w' := by
  have HB0 : Hid (Below w.heap.size w w) := hide (Below.refl _ _)
  have HOF := hide (fun w' (hb : Below w.heap.size w w') => of_any A n c L w' hn hlen (hA.next hb))
  have HRV := hide (fun w' (hb : Below w.heap.size w w') => drefvalid_any A n c L w' hn hlen (hA.next hb))
  have HAW := hide (fun w' => awake_any w')
  have hgu : ∀ (x y : Operand) (xs ys : Array Value) (w : World), (eqGuard .eql 64 x y (.agg xs) (.agg ys)).run Try.prog w = .ok () w := fun x y xs ys w => run_eqGuard_agg w .eql 64 x y xs ys (by kernel_rfl)
  have hea : ∀ (w : World) (a b : Int), (binOp .eql 64 (.agg #[.int .i64 a, .int .i64 b]) (.agg #[.int .i64 a, .int .i64 b])).run Try.prog w = .ok (.bool true) w := fun w a b => eq_pair a b w
  -- a local array, later
  have HLA : Hid (∀ (a b : Int) (w4 w' : World), Below (w4.alloc (.cells #[.int .i64 a, .int .i64 b] 64)).heap.size (w4.alloc (.cells #[.int .i64 a, .int .i64 b] 64)) w' → w'.cell? ⟨w4.heap.size, 0, none⟩ = some (.int .i64 a) ∧ w'.cell? ⟨w4.heap.size, 1, none⟩ = some (.int .i64 b)) := fun a b w4 w' hb => by
    have h0 : (w4.alloc (.cells #[.int .i64 a, .int .i64 b] 64)).heap[w4.heap.size]? = some (.cells #[.int .i64 a, .int .i64 b] 64 (0, 0)) := alloc_new _ _ _ rfl
    have h := (hb.block _ (lt_of_block h0)).trans h0
    exact ⟨blk_cell h 0, blk_cell h 1⟩
  have HAB : Hid (∀ (w' : World) (o : Obj), Below w.heap.size w w' → Below w.heap.size w (w'.alloc o)) := fun w' o h => h.alloc h.size _
  have HAS : Hid (∀ (w' : World) (o : Obj), Below w'.heap.size w' (w'.alloc o)) := fun w' o => (Below.refl _ _).alloc (Nat.le_refl _) _
  cases hv : jobsB L
  · have HNP := hide (fun w' X k c' (hk : (L.take 10).length = k) (hX : JobsA w' w'.heap.size X (L.take 10)) => plan_no X k c' (L.take 10) w' hk (by rw [← hk, List.length_take]; omega) hX (by rw [jobsB_take]; exact hv))
    have HNO := hide (fun w' X k c' (hk : (L.take 10).length = k) (hX : JobsA w' w'.heap.size X (L.take 10)) => overload_arg X k c' (L.take 10) w' hk (by rw [← hk, List.length_take]; omega) hX (by rw [jobsB_take]; exact hv))
    have HND := hide (fun w' X k c' (hk : (L.take 10).length = k) (hX : JobsA w' w'.heap.size X (L.take 10)) => delayA_no X k c' (L.take 10) w' hk (by rw [← hk, List.length_take]; omega) hX (by rw [jobsB_take]; exact hv))
    rw [hv] at HRV
    clear hv hn hA
    go_enter Try.func8, Try.ntmps8
    go_wp2_with (first
      | (go_at_call 18; refine (HOF.out _ HB0.out).mono ?_; rintro e w1 ⟨X1, k1, c1, rfl, hk1, hc1, hx1, hb1⟩; have HK1 := hide hk1; have HX1 := hide (jobs_of_own hx1); have HB1 := hide (HB0.out.trans (hb1.mono HB0.out.size)); clear hx1 hb1 hk1)
      | (go_at_call 24; refine (HNP.out _ X1 k1 c1 HK1.out HX1.out).mono ?_; rintro e w2 ⟨rfl, hb2⟩; have HB2 := hide (HB1.out.trans (hb2.mono HB1.out.size)); clear hb2)
      | (go_at_call 18; refine (HOF.out _ HB2.out).mono ?_; rintro e w3 ⟨X3, k3, c3, rfl, hk3, hc3, hx3, hb3⟩; have HK3 := hide hk3; have HX3 := hide (jobs_of_own hx3); have HB3 := hide (HB2.out.trans (hb3.mono HB2.out.size)); clear hx3 hb3 hk3)
      | (go_at_call 35; refine (HNO.out _ X3 k3 c3 HK3.out HX3.out).mono ?_; rintro e w4 ⟨rfl, hb4⟩; have HBo4 := hide (HB3.out.trans (hb4.mono HB3.out.size)); have HB4 := hide (HAB.out w4 (.cells #[.int .i64 0, .int .i64 0] 64) HBo4.out); have HC4 := hide (Below.refl (w4.alloc (.cells #[.int .i64 0, .int .i64 0] 64)).heap.size (w4.alloc (.cells #[.int .i64 0, .int .i64 0] 64))); clear hb4)
      | (go_at_call 18; refine (HOF.out _ HB4.out).mono ?_; rintro e w5 ⟨X5, k5, c5, rfl, hk5, hc5, hx5, hb5⟩; have HK5 := hide hk5; have HX5 := hide (jobs_of_own hx5); have HC4 := hide (HC4.out.trans (hb5.mono HC4.out.size)); have HB5 := hide (HB4.out.trans (hb5.mono HB4.out.size)); clear hx5 hb5 hk5)
      | (go_at_call 25; refine (HND.out _ X5 k5 c5 HK5.out HX5.out).mono ?_; rintro e w6 ⟨rfl, hb6⟩; have HC4 := hide (HC4.out.trans (hb6.mono HC4.out.size)); have HB6 := hide (HB5.out.trans (hb6.mono HB5.out.size)); clear hb6)
      | (go_at_call 19; refine (HRV.out _ HB6.out).mono ?_; rintro e w7 ⟨rfl, hb7⟩; have HC4 := hide (HC4.out.trans (hb7.mono HC4.out.size)); obtain ⟨y0, y1⟩ := HLA.out _ _ _ _ HC4.out; have HB7 := hide (HB6.out.trans (hb7.mono HB6.out.size)); clear hb7)
      | (go_at_call 20; refine (HAW.out _).mono ?_; rintro e w8 ⟨rfl, hb8⟩; have HB8 := hide (HB7.out.trans (hb8.mono HB7.out.size)); clear hb8))
    go_ret
    exact ⟨by simp, HB8.out⟩
  · have hL := jobsB_iff.1 hv
    have HKN : Hid (∀ k, (L.take 10).length = k → n = k) := fun k h => by rw [hL.take, hn] at h; exact h
    obtain ⟨a, b, er, HV⟩ := ov_val hv
    have HOV := hide HV
    have HYP := hide (fun w' X c' (hX : JobsA w' w'.heap.size X (L.take 10)) => plan_yes X n c' L w' hn hlen (by have := hX; rw [hL.take] at this; exact this) hv)
    have HYO := hide (fun w' X c' (hX : JobsA w' w'.heap.size X (L.take 10)) => HV.own X n c' w' hn (by have := hX; rw [hL.take] at this; exact this))
    have HYD := hide (fun w' X c' (hX : JobsA w' w'.heap.size X (L.take 10)) => delayA_yes X n c' L w' hn hlen (by have := hX; rw [hL.take] at this; exact this) hv)
    have HRO := hide (fun w' (hb : Below w.heap.size w w') => HV.ref A n c w' hn (hA.next hb))
    have HRP := hide (fun w' (hb : Below w.heap.size w w') => refPlan_any A n c L w' hn hL (hA.next hb))
    have HRD := hide (fun w' (hb : Below w.heap.size w w') => refDelay_any A n c L w' hn hL (hA.next hb))
    have HLE : Hid ((planN false L).length ≤ 1000) := (planN_ok false hL).len
    rw [hv] at HRV
    clear hv hn hA hL HV HOV
    obtain ⟨p, hp⟩ : ∃ p, planN false L = p := ⟨_, rfl⟩
    rw [hp] at HYP HYD HRP HRD HLE
    generalize delN L p = dl at *
    have HOW := hide (fun w' X m c' (hm : p.length = m) (hX : PcsA w' w'.heap.size X p) => ownp_any X m c' p w' hm (by have := HLE.out; omega) hX)
    have HEQ := hide (fun w' X m c' Y c2 (hm : p.length = m) (hX : PcsA w' w'.heap.size X p) (hY : PcsA w' w'.heap.size Y p) => eqrp_same X m c' Y c2 p w' hm (by have := HLE.out; omega) hX hY)
    clear hp
    go_enter Try.func8, Try.ntmps8
    go_wp2_with (first
      | (go_at_call 18; refine (HOF.out _ HB0.out).mono ?_; rintro e w1 ⟨X1, k1, c1, rfl, hk1, hc1, hx1, hb1⟩; obtain rfl : n = k1 := HKN.out _ hk1; have HX1 := hide (jobs_of_own hx1); have HB1 := hide (HB0.out.trans (hb1.mono HB0.out.size)); clear hx1 hb1 hk1)
      | (go_at_call 24; refine (HYP.out _ X1 c1 HX1.out).mono ?_; rintro e w2 ⟨P2, m2, c2, rfl, hm2, hc2, hP2, hb2⟩; have HM2 := hide hm2; have HP2 := hide hP2; clear hm2 hP2; have HB2 := hide (HB1.out.trans (hb2.mono HB1.out.size)); clear hb2)
      | (go_at_call 18; refine (HOF.out _ HB2.out).mono ?_; rintro e w3 ⟨X3, k3, c3, rfl, hk3, hc3, hx3, hb3⟩; obtain rfl : n = k3 := HKN.out _ hk3; have HX3 := hide (jobs_of_own hx3); have HP2 := hide (HP2.out.next hb3); have HB3 := hide (HB2.out.trans (hb3.mono HB2.out.size)); clear hx3 hb3 hk3)
      | (go_at_call 35; refine (HYO.out _ X3 c3 HX3.out).mono ?_; rintro e w4 ⟨rfl, hb4⟩; have HP2 := hide (HP2.out.next hb4); have HP2 := hide (HP2.out.next (HAS.out w4 (.cells #[.int .i64 a, .int .i64 b] 64))); have HBo4 := hide (HB3.out.trans (hb4.mono HB3.out.size)); have HB4 := hide (HAB.out w4 (.cells #[.int .i64 a, .int .i64 b] 64) HBo4.out); have HC4 := hide (Below.refl (w4.alloc (.cells #[.int .i64 a, .int .i64 b] 64)).heap.size (w4.alloc (.cells #[.int .i64 a, .int .i64 b] 64))); clear hb4)
      | (go_at_call 18; refine (HOF.out _ HB4.out).mono ?_; rintro e w5 ⟨X5, k5, c5, rfl, hk5, hc5, hx5, hb5⟩; obtain rfl : n = k5 := HKN.out _ hk5; have HX5 := hide (jobs_of_own hx5); have HP2 := hide (HP2.out.next hb5); have HC4 := hide (HC4.out.trans (hb5.mono HC4.out.size)); have HB5 := hide (HB4.out.trans (hb5.mono HB4.out.size)); clear hx5 hb5 hk5)
      | (go_at_call 25; refine (HYD.out _ X5 c5 HX5.out).mono ?_; rintro e w6 ⟨rfl, hb6⟩; have HP2 := hide (HP2.out.next hb6); have HC4 := hide (HC4.out.trans (hb6.mono HC4.out.size)); have HB6 := hide (HB5.out.trans (hb6.mono HB5.out.size)); clear hb6)
      | (go_at_call 19; refine (HRV.out _ HB6.out).mono ?_; rintro e w7 ⟨rfl, hb7⟩; have HP2 := hide (HP2.out.next hb7); have HC4 := hide (HC4.out.trans (hb7.mono HC4.out.size)); have HB7 := hide (HB6.out.trans (hb7.mono HB6.out.size)); clear hb7)
      | (go_at_call 36; refine (HRO.out _ HB7.out).mono ?_; rintro e w8 ⟨rfl, hb8⟩; have HP2 := hide (HP2.out.next hb8); have HC4 := hide (HC4.out.trans (hb8.mono HC4.out.size)); have HP2 := hide (HP2.out.next (HAS.out w8 (.cells #[.int .i64 a, .int .i64 b] 64))); have HC4 := hide (HC4.out.trans ((HAS.out w8 (.cells #[.int .i64 a, .int .i64 b] 64)).mono HC4.out.size)); have HBo8 := hide (HB7.out.trans (hb8.mono HB7.out.size)); have HB8 := hide (HAB.out w8 (.cells #[.int .i64 a, .int .i64 b] 64) HBo8.out); have HC8 := hide (Below.refl (w8.alloc (.cells #[.int .i64 a, .int .i64 b] 64)).heap.size (w8.alloc (.cells #[.int .i64 a, .int .i64 b] 64))); clear hb8)
      | (go_at_call 23; refine (HOW.out _ P2 m2 c2 HM2.out HP2.out).mono ?_; rintro e w9 ⟨P9, m9, c9, rfl, hm9, hc9, hP9, hb9⟩; have HM9 := hide hm9; have HP9 := hide (pcs_of_own hP9); clear hm9 hP9; have HC4 := hide (HC4.out.trans (hb9.mono HC4.out.size)); have HC8 := hide (HC8.out.trans (hb9.mono HC8.out.size)); have HB9 := hide (HB8.out.trans (hb9.mono HB8.out.size)); clear hb9)
      | (go_at_call 37; refine (HRP.out _ HB9.out).mono ?_; rintro e w10 ⟨P10, m10, c10, rfl, hm10, hc10, hP10, hb10⟩; obtain rfl : m9 = m10 := HM9.out.symm.trans hm10; have HP9 := hide (HP9.out.next hb10); have HP10 := hide hP10; clear hm10 hP10; have HC4 := hide (HC4.out.trans (hb10.mono HC4.out.size)); have HC8 := hide (HC8.out.trans (hb10.mono HC8.out.size)); have HB10 := hide (HB9.out.trans (hb10.mono HB9.out.size)); clear hb10)
      | (go_at_call 22; refine (HEQ.out _ P9 _ c9 P10 c10 HM9.out HP9.out HP10.out).mono ?_; rintro e w11 ⟨rfl, hb11⟩; have HC4 := hide (HC4.out.trans (hb11.mono HC4.out.size)); have HC8 := hide (HC8.out.trans (hb11.mono HC8.out.size)); obtain ⟨y0, y1⟩ := HLA.out _ _ _ _ HC4.out; obtain ⟨z0, z1⟩ := HLA.out _ _ _ _ HC8.out; have HB11 := hide (HB10.out.trans (hb11.mono HB10.out.size)); clear hb11)
      | (go_at_call 38; refine (HRD.out _ HB11.out).mono ?_; rintro e w12 ⟨rfl, hb12⟩; have HB12 := hide (HB11.out.trans (hb12.mono HB11.out.size)); clear hb12)
      | (go_at_call 20; refine (HAW.out _).mono ?_; rintro e w13 ⟨rfl, hb13⟩; have HB13 := hide (HB12.out.trans (hb13.mono HB12.out.size)); clear hb13))
    go_ret
    exact ⟨by simp, HB13.out⟩
end Go.Proofs.Ytiadineakhcclaa
