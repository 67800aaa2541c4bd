/-
  The walk of DatesChecks.
-/
import Derived.Test.YtiadineakhcclaaDWholeA
import Derived.Test.YtiadineakhcclaaDWholeR
import Derived.Test.YtiadineakhcclaaDAwake
import Derived.Test.YtiadineakhcclaaDOf
import Derived.Test.YtiadineakhcclaaDRefValid
import Derived.Test.YtiadineakhcclaaEqual
namespace Go.Proofs.Ytiadineakhcclaa
open Go.RowKit Go.Deep
set_option linter.unusedVariables false
set_option linter.unusedSimpArgs false

set_option maxRecDepth 100000 in
set_option maxHeartbeats 3200000 in
theorem datesChecks_any (A : Option Addr) (n c : Nat) (L : List J4) (P : Option Addr) (m pc : Nat) (p : List P3) (w : World) (hn : L.length = n) (hlen : n ≤ 9223372036854775807) (hA : JobsA w w.heap.size A L) (hm : p.length = m) (hmm : m ≤ 9223372036854775807) (hP : PcsA w w.heap.size P p) :
    Calls Try.prog 7 #[.slice A n c, .slice P m pc] w fun e w' => e = .returned (.bool true) ∧ Below w.heap.size w w' := by
  have HB0 : Hid (Below w.heap.size w w) := hide (Below.refl _ _)
  have HOF := hide (fun w' (hb : Below w.heap.size w w') => of_any A n c L w' hn hlen (hA.next hb))
  have HRV := hide (fun w' (hb : Below w.heap.size w w') => drefvalid_any A n c L w' hn hlen (hA.next hb))
  have HAW := hide (fun w' => awake_any w')
  have HPC := hide (fun w' (hb : Below w.heap.size w w') => pieces_any P m pc p w' hm hmm (hP.next hb))
  cases hv : jobsB L
  · have HCK := hide (fun w' X k c' Y q d (hk : (L.take 10).length = k) (hX : JobsA w' w'.heap.size X (L.take 10)) (hq : (p.take 200).length = q) (hY : PcsA w' w'.heap.size Y (p.take 200)) => check_arg X k c' (L.take 10) Y q d (p.take 200) w' hk (by rw [← hk, List.length_take]; omega) hX hq (by rw [← hq, List.length_take]; omega) hY (by rw [jobsB_take]; exact hv))
    rw [hv] at HRV
    clear hv hn hA hm hP
    go_enter Try.func7, Try.ntmps7
    go_wp2_with (first
      | (go_at_call 18; refine (HOF.out _ HB0.out).mono ?_; rintro e w1 ⟨X1, k1, c1, rfl, hk1, hc1, hx1, hb1⟩; have HX1 := hide (jobs_of_own hx1); have HK1 := hide hk1; have HB1 := hide (HB0.out.trans (hb1.mono HB0.out.size)); clear hx1 hb1 hk1)
      | (go_at_call 33; refine (HPC.out _ HB1.out).mono ?_; rintro e w2 ⟨Y2, q2, d2, rfl, hq2, hd2, hY2, hb2⟩; have HQ2 := hide hq2; have HY2 := hide (pcs_of_own hY2); have HX1 := hide (HX1.out.next hb2); have HB2 := hide (HB1.out.trans (hb2.mono HB1.out.size)); clear hY2 hb2 hq2)
      | (go_at_call 32; refine (HCK.out _ X1 k1 c1 Y2 q2 d2 HK1.out HX1.out HQ2.out HY2.out).mono ?_; rintro e w3 ⟨rfl, hb3⟩; have HB3 := hide (HB2.out.trans (hb3.mono HB2.out.size)); clear hb3)
      | (go_at_call 19; refine (HRV.out _ HB3.out).mono ?_; rintro e w4 ⟨rfl, hb4⟩; have HB4 := hide (HB3.out.trans (hb4.mono HB3.out.size)); clear hb4)
      | (go_at_call 20; refine (HAW.out _).mono ?_; rintro e w5 ⟨rfl, hb5⟩; have HB5 := hide (HB4.out.trans (hb5.mono HB4.out.size)); clear hb5))
    go_ret
    exact ⟨by simp, HB5.out⟩
  · have hL := jobsB_iff.1 hv
    have h8 : n ≤ 8 := by rw [← hn]; exact hL.le
    have HTK := hide hL.take
    have HKN : Hid (∀ k, (L.take 10).length = k → n = k) := fun k h => by rw [hL.take, hn] at h; exact h
    have HRW := hide (fun w' (hb : Below w.heap.size w w') => refWhole_any A n c L P m pc p w' hn hL hm hmm (hA.next hb) (hP.next hb))
    rw [hv] at HRV
    cases hw : wholeB L p
    · have HCK := hide (fun w' X k c' Y q d (hk : (L.take 10).length = k) (hX : JobsA w' w'.heap.size X (L.take 10)) (hq : (p.take 200).length = q) (hY : PcsA w' w'.heap.size Y (p.take 200)) => check_no X k c' (L.take 10) Y q d (p.take 200) w' hk (by rw [← hk, List.length_take]; omega) hX hq (by rw [← hq, List.length_take]; omega) hY (by rw [jobsB_take]; exact hv) (by rw [hL.take, whole_take hL]; exact hw))
      have HRN := hide (fun w' hb => (HRW.out w' hb).mono (R' := fun e w'' => e = .returned (.tuple #[.slice none 0 0, .bool false]) ∧ Below w'.heap.size w' w'') fun e w'' h => by
        rcases h with h | h
        · exact h.2
        · rw [hw] at h; exact absurd h.1 (by simp))
      have HEQ := hide (fun w' => equal_any none none 0 0 0 0 0 0 [] [] w' rfl rfl (by omega) IntsA.nil_ IntsA.nil_)
      rw [show decide (([] : List Int) = []) = true from decide_eq_true rfl] at HEQ
      clear hv hn hA hm hP hw hL HRW
      go_enter Try.func7, Try.ntmps7
      go_wp2_with (first
        | (go_at_call 18; refine (HOF.out _ HB0.out).mono ?_; rintro e w1 ⟨X1, k1, c1, rfl, hk1, hc1, hx1, hb1⟩; obtain rfl : n = k1 := HKN.out _ hk1; have HX1 := hide (jobs_of_own hx1); have HK1 := hide hk1; have HB1 := hide (HB0.out.trans (hb1.mono HB0.out.size)); clear hx1 hb1 hk1)
        | (go_at_call 33; refine (HPC.out _ HB1.out).mono ?_; rintro e w2 ⟨Y2, q2, d2, rfl, hq2, hd2, hY2, hb2⟩; have HQ2 := hide hq2; have HY2 := hide (pcs_of_own hY2); have HX1 := hide (HX1.out.next hb2); have HB2 := hide (HB1.out.trans (hb2.mono HB1.out.size)); clear hY2 hb2 hq2)
        | (go_at_call 32; refine (HCK.out _ X1 _ c1 Y2 q2 d2 HK1.out HX1.out HQ2.out HY2.out).mono ?_; rintro e w3 ⟨rfl, hb3⟩; have HB3 := hide (HB2.out.trans (hb3.mono HB2.out.size)); clear hb3)
        | (go_at_call 19; refine (HRV.out _ HB3.out).mono ?_; rintro e w4 ⟨rfl, hb4⟩; have HB4 := hide (HB3.out.trans (hb4.mono HB3.out.size)); clear hb4)
        | (go_at_call 34; refine (HRN.out _ HB4.out).mono ?_; rintro e w5 ⟨rfl, hb5⟩; have HB5 := hide (HB4.out.trans (hb5.mono HB4.out.size)); clear hb5)
        | (go_at_call 30; refine (HEQ.out _).mono ?_; rintro e w6 ⟨rfl, q6, hw6⟩; have HB6 := hide (below_drewN HB5.out q6); subst hw6)
        | (go_at_call 20; refine (HAW.out _).mono ?_; rintro e w7 ⟨rfl, hb7⟩; have HB7 := hide (HB6.out.trans (hb7.mono HB6.out.size)); clear hb7))
      go_ret
      exact ⟨by simp, HB7.out⟩
    · have hp2 := whole_same hL hw
      have HCK := hide (fun w' X c' Y q d (hk : (L.take 10).length = n) (hX : JobsA w' w'.heap.size X (L.take 10)) (hq : (p.take 200).length = q) (hY : PcsA w' w'.heap.size Y (p.take 200)) => check_yes X n c' L Y q d p w' (by rw [← hL.take]; exact hk) (by rw [← hk, List.length_take]; omega) (by have := hX; rw [hL.take] at this; exact this) (by rw [← hp2]; exact hq) (by rw [← hq, List.length_take]; omega) (by have := hY; rw [hp2] at this; exact this) hv hw)
      have HRN := hide (fun w' hb => (HRW.out w' hb).mono (R' := fun e w'' => ∃ X c', e = .returned (.tuple #[.slice X n c', .bool true]) ∧ n ≤ c' ∧ IntsA w'' w''.heap.size X (finN n p) ∧ Below w'.heap.size w' w'') fun e w'' h => by
        rcases h with h | h
        · rw [hw] at h; exact absurd h.1 (by simp)
        · exact h.2)
      have HEN : Hid ((finN n p).length = n) := finTo_len n p _
      clear hv hn hA hm hP hw hL hp2 HRW
      generalize finN n p = en at *
      have HEQ := hide (fun w' Z c' Y d (hX : IntsA w' w'.heap.size Z en) (hY : IntsA w' w'.heap.size Y en) => equal_any Z Y n n c' d w'.heap.size w'.heap.size en en w' HEN.out HEN.out (by omega) hX hY)
      rw [show decide (en = en) = true from decide_eq_true rfl] at HEQ
      go_enter Try.func7, Try.ntmps7
      go_wp2_with (first
        | (go_at_call 18; refine (HOF.out _ HB0.out).mono ?_; rintro e w1 ⟨X1, k1, c1, rfl, hk1, hc1, hx1, hb1⟩; obtain rfl : n = k1 := HKN.out _ hk1; have HX1 := hide (jobs_of_own hx1); have HK1 := hide hk1; have HB1 := hide (HB0.out.trans (hb1.mono HB0.out.size)); clear hx1 hb1 hk1)
        | (go_at_call 33; refine (HPC.out _ HB1.out).mono ?_; rintro e w2 ⟨Y2, q2, d2, rfl, hq2, hd2, hY2, hb2⟩; have HQ2 := hide hq2; have HY2 := hide (pcs_of_own hY2); have HX1 := hide (HX1.out.next hb2); have HB2 := hide (HB1.out.trans (hb2.mono HB1.out.size)); clear hY2 hb2 hq2)
        | (go_at_call 32; refine (HCK.out _ X1 c1 Y2 q2 d2 HK1.out HX1.out HQ2.out HY2.out).mono ?_; rintro e w3 ⟨Z3, z3, rfl, hz3, hI3, hb3⟩; have HI3 := hide (hI3 : IntsA _ _ _ en); have HB3 := hide (HB2.out.trans (hb3.mono HB2.out.size)); clear hb3 hI3)
        | (go_at_call 19; refine (HRV.out _ HB3.out).mono ?_; rintro e w4 ⟨rfl, hb4⟩; have HI4 := hide (HI3.out.next hb4); have HB4 := hide (HB3.out.trans (hb4.mono HB3.out.size)); clear hb4)
        | (go_at_call 34; refine (HRN.out _ HB4.out).mono ?_; rintro e w5 ⟨Z5, z5, rfl, hz5, hI5, hb5⟩; have HQ5 := hide hI5; have HI5 := hide (HI4.out.next hb5); have HB5 := hide (HB4.out.trans (hb5.mono HB4.out.size)); clear hb5 hI5)
        | (go_at_call 30; refine (HEQ.out _ Z3 z3 Z5 z5 HI5.out HQ5.out).mono ?_; rintro e w6 ⟨rfl, q6, hw6⟩; have HB6 := hide (below_drewN HB5.out q6); subst hw6)
        | (go_at_call 20; refine (HAW.out _).mono ?_; rintro e w7 ⟨rfl, hb7⟩; have HB7 := hide (HB6.out.trans (hb7.mono HB6.out.size)); clear hb7))
      go_ret
      exact ⟨by simp, HB7.out⟩
end Go.Proofs.Ytiadineakhcclaa
