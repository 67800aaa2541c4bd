/-
  The walk of DatesMost.
-/
import Derived.Test.YtiadineakhcclaaDRefWeigh
import Derived.Test.YtiadineakhcclaaDAwake
import Derived.Test.YtiadineakhcclaaDOf
import Derived.Test.YtiadineakhcclaaDRefValid
namespace Go.Proofs.Ytiadineakhcclaa
open Go.RowKit Go.Deep
set_option linter.unusedVariables false
set_option linter.unusedSimpArgs false

set_option maxRecDepth 100000 in
set_option maxHeartbeats 3200000 in
theorem datesMost_any (A : Option Addr) (n c : Nat) (L : List J4) (w : World) (hn : L.length = n) (hlen : n ≤ 9223372036854775807) (hA : JobsA w w.heap.size A L) :
    Calls Try.prog 13 #[.slice A n c] w fun e w' => e = .returned (.bool true) ∧ Below w.heap.size w w' := by
  have HB0 : Hid (Below w.heap.size w w) := hide (Below.refl _ _)
  have HOF := hide (fun w' (hb : Below w.heap.size w w') => of_any A n c L w' hn hlen (hA.next hb))
  have HRV := hide (fun w' (hb : Below w.heap.size w w') => drefvalid_any A n c L w' hn hlen (hA.next hb))
  have HAW := hide (fun w' => awake_any w')
  cases hv : jobsB L
  · have HNO := hide (fun w' X k c' (hk : (L.take 10).length = k) (hX : JobsA w' w'.heap.size X (L.take 10)) => most_no X k c' (L.take 10) w' hk (by rw [← hk, List.length_take]; omega) hX (by rw [jobsB_take]; exact hv))
    have HNW := hide (fun w' X k c' (hk : (L.take 10).length = k) (hX : JobsA w' w'.heap.size X (L.take 10)) => weigh_no X k c' (L.take 10) w' hk (by rw [← hk, List.length_take]; omega) hX (by rw [jobsB_take]; exact hv))
    rw [hv] at HRV
    clear hv hn hA
    go_enter Try.func13, Try.ntmps13
    go_wp2_with (first
      | (go_at_call 18; (with_reducible refine (HOF.out _ HB0.out).mono ?_); rintro e w1 ⟨X1, k1, c1, rfl, hk1, hc1, hx1, hb1⟩; have HX1 := hide (jobs_of_own hx1); have HK1 := hide hk1; have HB1 := hide (HB0.out.trans (hb1.mono HB0.out.size)); clear hx1 hb1 hk1)
      | (go_at_call 49; refine (HNO.out _ X1 k1 c1 HK1.out HX1.out).mono ?_; rintro e w2 ⟨rfl, hb2⟩; have HB2 := hide (HB1.out.trans (hb2.mono HB1.out.size)); clear hb2)
      | (go_at_call 18; (with_reducible refine (HOF.out _ HB2.out).mono ?_); rintro e w3 ⟨X3, k3, c3, rfl, hk3, hc3, hx3, hb3⟩; have HX3 := hide (jobs_of_own hx3); have HK3 := hide hk3; have HB3 := hide (HB2.out.trans (hb3.mono HB2.out.size)); clear hx3 hb3 hk3)
      | (go_at_call 50; refine (HNW.out _ X3 k3 c3 HK3.out HX3.out).mono ?_; rintro e w4 ⟨rfl, hb4⟩; have HB4 := hide (HB3.out.trans (hb4.mono HB3.out.size)); clear hb4)
      | (go_at_call 19; refine (HRV.out _ HB4.out).mono ?_; rintro e w5 ⟨rfl, hb5⟩; have HB5 := hide (HB4.out.trans (hb5.mono HB4.out.size)); clear hb5)
      | (go_at_call 20; refine (HAW.out _).mono ?_; rintro e w6 ⟨rfl, hb6⟩; have HB6 := hide (HB5.out.trans (hb6.mono HB5.out.size)); clear hb6))
    go_ret
    exact ⟨rfl, HB6.out⟩
  · have hL := jobsB_iff.1 hv
    have HTK := hide hL.take
    have HNO := hide (fun w' X k c' (hk : (L.take 10).length = k) (hX : JobsA w' w'.heap.size X (L.take 10)) => most_yes X k c' (L.take 10) w' hk (by rw [← hk, List.length_take]; omega) hX (by rw [jobsB_take]; exact hv))
    have HNW := hide (fun w' X k c' (hk : (L.take 10).length = k) (hX : JobsA w' w'.heap.size X (L.take 10)) => weigh_yes X k c' (L.take 10) w' hk (by rw [← hk, List.length_take]; omega) hX (by rw [jobsB_take]; exact hv))
    rw [hL.take] at HNO HNW
    have HRM := hide (fun w' (hb : Below w.heap.size w w') => rmost_any A n c L w' hn hL (hA.next hb))
    have HRW := hide (fun w' (hb : Below w.heap.size w w') => rweigh_any A n c L w' hn hL (hA.next hb))
    rw [← hn] at HRW
    have HNW2 : Hid (∀ w' X k c' (hk : L.length = k) (hX : JobsA w' w'.heap.size X L), Calls Try.prog 50 #[.slice X k c'] w' fun e w'' => e = .returned (.tuple #[.int .i64 (weighN L : Nat), .int .i64 (wtN L (weighN L) L.length), .int .i64 0]) ∧ Below w'.heap.size w' w'') := fun w' X k c' hk hX => by rw [hk]; exact HNW.out w' X k c' hk hX
    rw [hn] at HRW
    rw [hn] at HNW2
    generalize wtN L (weighN L) n = wt at *
    generalize weighN L = wn at *
    generalize mostN L = mn at *
    rw [hv] at HRV
    have HN := hide hn
    clear hv hA hL HNW
    go_enter Try.func13, Try.ntmps13
    go_wp2_with (first
      | (go_at_call 18; (with_reducible refine (HOF.out _ HB0.out).mono ?_); rintro e w1 ⟨X1, k1, c1, rfl, hk1, hc1, hx1, hb1⟩; have HX1 := hide (jobs_of_own hx1); have HK1 := hide hk1; have HB1 := hide (HB0.out.trans (hb1.mono HB0.out.size)); clear hx1 hb1 hk1)
      | (go_at_call 49; refine (HNO.out _ X1 k1 c1 (by rw [← HTK.out]; exact HK1.out) (by rw [← HTK.out]; exact HX1.out)).mono ?_; rintro e w2 ⟨rfl, hb2⟩; have HB2 := hide (HB1.out.trans (hb2.mono HB1.out.size)); clear hb2)
      | (go_at_call 18; (with_reducible refine (HOF.out _ HB2.out).mono ?_); rintro e w3 ⟨X3, k3, c3, rfl, hk3, hc3, hx3, hb3⟩; have HX3 := hide (jobs_of_own hx3); have HK3 := hide hk3; have HB3 := hide (HB2.out.trans (hb3.mono HB2.out.size)); clear hx3 hb3 hk3)
      | (go_at_call 50; refine (HNW2.out _ X3 k3 c3 (by rw [← HN.out, ← HTK.out]; exact HK3.out) (by rw [← HTK.out]; exact HX3.out)).mono ?_; rintro e w4 ⟨rfl, hb4⟩; have HB4 := hide (HB3.out.trans (hb4.mono HB3.out.size)); clear hb4)
      | (go_at_call 19; refine (HRV.out _ HB4.out).mono ?_; rintro e w5 ⟨rfl, hb5⟩; have HB5 := hide (HB4.out.trans (hb5.mono HB4.out.size)); clear hb5)
      | (go_at_call 51; refine (HRW.out _ HB5.out).mono ?_; rintro e w6 ⟨rfl, hb6⟩; have HB6 := hide (HB5.out.trans (hb6.mono HB5.out.size)); clear hb6)
      | (go_at_call 52; refine (HRM.out _ HB6.out).mono ?_; rintro e w7 ⟨rfl, hb7⟩; have HB7 := hide (HB6.out.trans (hb7.mono HB6.out.size)); clear hb7)
      | (go_at_call 20; refine (HAW.out _).mono ?_; rintro e w8 ⟨rfl, hb8⟩; have HB8 := hide (HB7.out.trans (hb8.mono HB7.out.size)); clear hb8))
    go_ret
    exact ⟨by simp, HB8.out⟩
end Go.Proofs.Ytiadineakhcclaa
