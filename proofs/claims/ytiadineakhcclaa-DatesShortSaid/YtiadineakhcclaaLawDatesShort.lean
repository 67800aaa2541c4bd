/-
  The walk of DatesShort.
-/
import Derived.Test.YtiadineakhcclaaDRefs
import Derived.Test.YtiadineakhcclaaDAwake
import Derived.Test.YtiadineakhcclaaDOf
import Derived.Test.YtiadineakhcclaaDRefValid
namespace Go.Proofs.Ytiadineakhcclaa
open Go.RowKit Go.Deep
set_option linter.unusedVariables false
set_option linter.unusedSimpArgs false

set_option maxRecDepth 100000 in
set_option maxHeartbeats 3200000 in
theorem datesShort_any (A : Option Addr) (n c : Nat) (L : List J4) (w : World) (hn : L.length = n) (hlen : n ≤ 9223372036854775807) (hA : JobsA w w.heap.size A L) :
    Calls Try.prog 3 #[.slice A n c] w fun e w' => e = .returned (.bool true) ∧ Below w.heap.size w w' := by
  have HB0 : Hid (Below w.heap.size w w) := hide (Below.refl _ _)
  have HOF := hide (fun w' (hb : Below w.heap.size w w') => of_any A n c L w' hn hlen (hA.next hb))
  have HRV := hide (fun w' (hb : Below w.heap.size w w') => drefvalid_any A n c L w' hn hlen (hA.next hb))
  have HAW := hide (fun w' => awake_any w')
  cases hv : jobsB L
  · have HNO := hide (fun w' X k c' (hk : (L.take 10).length = k) (hX : JobsA w' w'.heap.size X (L.take 10)) => short_no X k c' (L.take 10) w' hk (by rw [← hk, List.length_take]; omega) hX (by rw [jobsB_take]; exact hv))
    rw [hv] at HRV
    clear hv hn hA
    go_enter Try.func3, Try.ntmps3
    go_wp2_with (first
      | (go_at_call 18; refine (HOF.out _ HB0.out).mono ?_; rintro e w1 ⟨X1, k1, c1, rfl, hk1, hc1, hx1, hb1⟩; have HX1 := hide (jobs_of_own hx1); have HK1 := hide hk1; have HB1 := hide (HB0.out.trans (hb1.mono HB0.out.size)); clear hx1 hb1 hk1)
      | (go_at_call 17; refine (HNO.out _ X1 k1 c1 HK1.out HX1.out).mono ?_; rintro e w2 ⟨rfl, hb2⟩; have HB2 := hide (HB1.out.trans (hb2.mono HB1.out.size)); clear hb2)
      | (go_at_call 19; refine (HRV.out _ HB2.out).mono ?_; rintro e w3 ⟨rfl, hb3⟩; have HB3 := hide (HB2.out.trans (hb3.mono HB2.out.size)); clear hb3)
      | (go_at_call 20; refine (HAW.out _).mono ?_; rintro e w4 ⟨rfl, hb4⟩; have HB4 := hide (HB3.out.trans (hb4.mono HB3.out.size)); clear hb4))
    go_ret
    exact ⟨rfl, HB4.out⟩
  · have hL := jobsB_iff.1 hv
    have HTK := hide hL.take
    have HYS := hide (fun w' X k c' (hk : (L.take 10).length = k) (hX : JobsA w' w'.heap.size X (L.take 10)) => short_yes X k c' (L.take 10) w' hk (by rw [← hk, List.length_take]; omega) hX (by rw [jobsB_take]; exact hv))
    rw [hL.take] at HYS
    have HRS := hide (fun w' (hb : Below w.heap.size w w') => refShort_any A n c L w' hn hL (hA.next hb))
    have HLE : Hid ((planN true L).length ≤ 1000) := (planN_ok true hL).len
    rw [hv] at HRV
    clear hv hn hA hL
    obtain ⟨p, hp⟩ : ∃ p, planN true L = p := ⟨_, rfl⟩
    rw [hp] at HYS HRS HLE
    generalize endSum L p = es at *
    have HOW := hide (fun w' X m c' (hm : p.length = m) (hX : PcsA w' w'.heap.size X p) => ownp_any X m c' p w' hm (by have := HLE.out; omega) hX)
    have HEQ := hide (fun w' X m c' Y c2 (hm : p.length = m) (hX : PcsA w' w'.heap.size X p) (hY : PcsA w' w'.heap.size Y p) => eqrp_same X m c' Y c2 p w' hm (by have := HLE.out; omega) hX hY)
    clear hp
    go_enter Try.func3, Try.ntmps3
    go_wp2_with (first
      | (go_at_call 18; refine (HOF.out _ HB0.out).mono ?_; rintro e w1 ⟨X1, k1, c1, rfl, hk1, hc1, hx1, hb1⟩; have HX1 := hide (jobs_of_own hx1); have HK1 := hide hk1; have HB1 := hide (HB0.out.trans (hb1.mono HB0.out.size)); clear hx1 hb1 hk1)
      | (go_at_call 17; refine (HYS.out _ X1 k1 c1 (by rw [← HTK.out]; exact HK1.out) (by rw [← HTK.out]; exact HX1.out)).mono ?_; rintro e w2 ⟨P2, m2, c2, rfl, hm2, hc2, hP2, hb2⟩; have HM2 := hide hm2; have HP2 := hide hP2; have HB2 := hide (HB1.out.trans (hb2.mono HB1.out.size)); clear hm2 hP2 hb2)
      | (go_at_call 19; refine (HRV.out _ HB2.out).mono ?_; rintro e w3 ⟨rfl, hb3⟩; have HP3 := hide (HP2.out.next hb3); have HB3 := hide (HB2.out.trans (hb3.mono HB2.out.size)); clear hb3)
      | (go_at_call 21; refine (HRS.out _ HB3.out).mono ?_; rintro e w4 ⟨P4, m4, c4, rfl, hm4, hc4, hP4, hb4⟩; have HM4 := hide hm4; have HQ4 := hide hP4; have HP4 := hide (HP3.out.next hb4); have HB4 := hide (HB3.out.trans (hb4.mono HB3.out.size)); clear hm4 hP4 hb4)
      | (go_at_call 23; refine (HOW.out _ P2 m2 c2 HM2.out HP4.out).mono ?_; rintro e w5 ⟨P5, m5, c5, rfl, hm5, hc5, hP5, hb5⟩; have HM5 := hide hm5; have HP5 := hide (pcs_of_own hP5); have HQ5 := hide (HQ4.out.next hb5); have HB5 := hide (HB4.out.trans (hb5.mono HB4.out.size)); clear hm5 hP5 hb5)
      | (go_at_call 22; obtain rfl : m5 = m4 := HM5.out.symm.trans HM4.out; refine (HEQ.out _ P5 _ c5 P4 c4 HM5.out HP5.out HQ5.out).mono ?_; rintro e w6 ⟨rfl, hb6⟩; have HB6 := hide (HB5.out.trans (hb6.mono HB5.out.size)); clear hb6)
      | (go_at_call 20; refine (HAW.out _).mono ?_; rintro e w7 ⟨rfl, hb7⟩; have HB7 := hide (HB6.out.trans (hb7.mono HB6.out.size)); clear hb7))
    go_ret
    exact ⟨by simp, HB7.out⟩
end Go.Proofs.Ytiadineakhcclaa
