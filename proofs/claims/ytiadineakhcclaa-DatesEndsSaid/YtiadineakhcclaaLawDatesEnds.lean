/-
  The walk of DatesEnds.
-/
import Derived.Test.YtiadineakhcclaaDRefs
import Derived.Test.YtiadineakhcclaaDAwake
import Derived.Test.YtiadineakhcclaaDOf
import Derived.Test.YtiadineakhcclaaDRefValid
import Derived.Test.YtiadineakhcclaaDEnds
namespace Go.Proofs.Ytiadineakhcclaa
open Go.RowKit Go.Deep
set_option linter.unusedVariables false
set_option linter.unusedSimpArgs false

theorem take10_ord {o : List Int} {n : Nat} (hn : n ≤ 8) : ordB (o.take 10) n = ordB o n := by
  by_cases h : o.length ≤ 10
  · rw [List.take_of_length_le h]
  · have h1 : ordB o n = false := by
      cases h2 : ordB o n with
      | false => rfl
      | true => have := (ordB_iff.1 h2).1; omega
    have h3 : ordB (o.take 10) n = false := by
      cases h2 : ordB (o.take 10) n with
      | false => rfl
      | true => have := (ordB_iff.1 h2).1; rw [List.length_take] at this; omega
    rw [h1, h3]
theorem take10_same {o : List Int} {n : Nat} (hn : n ≤ 8) (h : ordB o n = true) : o.take 10 = o := List.take_of_length_le (by have := (ordB_iff.1 h).1; omega)
set_option maxRecDepth 100000 in
set_option maxHeartbeats 3200000 in
theorem datesEnds_any (A : Option Addr) (n c : Nat) (L : List J4) (X : Option Addr) (m cm : Nat) (l : List Int) (w : World) (hn : L.length = n) (hlen : n ≤ 9223372036854775807) (hA : JobsA w w.heap.size A L) (hm : l.length = m) (hmc : m ≤ cm) (hlm : m ≤ 9223372036854775807) (hX : IntsA w w.heap.size X l) :
    Calls Try.prog 6 #[.slice A n c, .slice X m cm] w fun e w' => e = .returned (.bool true) ∧ Below w.heap.size w w' := by
  have HB0 : Hid (Below w.heap.size w w) := hide (Below.refl _ _)
  have HOF := hide (fun w' (hb : Below w.heap.size w w') => of_any A n c L w' hn hlen (hA.next hb))
  have HRV := hide (fun w' (hb : Below w.heap.size w w') => drefvalid_any A n c L w' hn hlen (hA.next hb))
  have HAW := hide (fun w' => awake_any w')
  obtain ⟨q, hq⟩ : ∃ q, (l.take 10).length = q := ⟨_, rfl⟩
  have HLI := hide (fun w' (hb : Below w.heap.size w w') => dlist_any X m cm w'.heap.size l w' hm hmc hlm (hX.next hb))
  rw [hq] at HLI
  have HQ := hide hq
  have hq10 : q ≤ 10 := by rw [← hq, List.length_take]; omega
  clear hq
  have HIO := hide (fun w' (hb : Below w.heap.size w w') (h8 : n ≤ 8) => dIsOrder_any X m cm n l w' hm hlm h8 (hX.next hb))
  cases hv : jobsB L
  · have HNO := hide (fun w' X k c' Y d (hk : (L.take 10).length = k) (hX : JobsA w' w'.heap.size X (L.take 10)) (hY : IntsA w' w'.heap.size Y (l.take 10)) => ends_no X k c' (L.take 10) Y q d (l.take 10) w' hk (by rw [← hk, List.length_take]; omega) hX HQ.out (by omega) hY (.inl (by rw [jobsB_take]; exact hv)))
    rw [hv] at HRV
    clear hv hn hA hm hX
    go_enter Try.func6, Try.ntmps6
    go_wp2_with (first
      | (go_at_call 18; refine (HOF.out _ HB0.out).mono ?_; rintro e w1 ⟨X1, k1, c1, rfl, hk1, hc1, hx1, hb1⟩; have HX1 := hide (jobs_of_own hx1); have HK1 := hide hk1; have HB1 := hide (HB0.out.trans (hb1.mono HB0.out.size)); clear hx1 hb1 hk1)
      | (go_at_call 28; refine (HLI.out _ HB1.out).mono ?_; rintro e w2 ⟨Y2, d2, rfl, hd2, hY2, hb2, _⟩; have HY2 := hide hY2; have HX1 := hide (HX1.out.next hb2); have HB2 := hide (HB1.out.trans (hb2.mono HB1.out.size)); clear hY2 hb2)
      | (go_at_call 27; refine (HNO.out _ X1 k1 c1 Y2 d2 HK1.out HX1.out HY2.out).mono ?_; rintro e w3 ⟨rfl, hb3⟩; have HB3 := hide (HB2.out.trans (hb3.mono HB2.out.size)); clear hb3)
      | (go_at_call 19; refine (HRV.out _ HB3.out).mono ?_; rintro e w4 ⟨rfl, hb4⟩; have HB4 := hide (HB3.out.trans (hb4.mono HB3.out.size)); clear hb4)
      | (go_at_call 20; refine (HAW.out _).mono ?_; rintro e w5 ⟨rfl, hb5⟩; have HB5 := hide (HB4.out.trans (hb5.mono HB4.out.size)); clear hb5))
    go_ret
    exact ⟨rfl, HB5.out⟩
  · have hL := jobsB_iff.1 hv
    have h8 : n ≤ 8 := by rw [← hn]; exact hL.le
    have HTK := hide hL.take
    have HKN : Hid (∀ k, (L.take 10).length = k → n = k) := fun k h => by rw [hL.take, hn] at h; exact h
    cases ho : ordB l n
    · have HNO := hide (fun w' X k c' Y d (hk : (L.take 10).length = k) (hX : JobsA w' w'.heap.size X (L.take 10)) (hY : IntsA w' w'.heap.size Y (l.take 10)) => ends_no X k c' (L.take 10) Y q d (l.take 10) w' hk (by rw [← hk, List.length_take]; omega) hX HQ.out (by omega) hY (.inr ⟨by rw [jobsB_take]; exact hv, by rw [← hk, hL.take, hn, take10_ord h8]; exact ho⟩))
      rw [hv] at HRV
      rw [ho] at HIO
      clear hv hn hA hm hX ho hL
      go_enter Try.func6, Try.ntmps6
      go_wp2_with (first
        | (go_at_call 18; refine (HOF.out _ HB0.out).mono ?_; rintro e w1 ⟨X1, k1, c1, rfl, hk1, hc1, hx1, hb1⟩; have HX1 := hide (jobs_of_own hx1); have HK1 := hide hk1; have HB1 := hide (HB0.out.trans (hb1.mono HB0.out.size)); clear hx1 hb1 hk1)
        | (go_at_call 28; refine (HLI.out _ HB1.out).mono ?_; rintro e w2 ⟨Y2, d2, rfl, hd2, hY2, hb2, _⟩; have HY2 := hide hY2; have HX1 := hide (HX1.out.next hb2); have HB2 := hide (HB1.out.trans (hb2.mono HB1.out.size)); clear hY2 hb2)
        | (go_at_call 27; refine (HNO.out _ X1 k1 c1 Y2 d2 HK1.out HX1.out HY2.out).mono ?_; rintro e w3 ⟨rfl, hb3⟩; have HB3 := hide (HB2.out.trans (hb3.mono HB2.out.size)); clear hb3)
        | (go_at_call 19; refine (HRV.out _ HB3.out).mono ?_; rintro e w4 ⟨rfl, hb4⟩; have HB4 := hide (HB3.out.trans (hb4.mono HB3.out.size)); clear hb4)
        | (go_at_call 29; refine (HIO.out _ HB4.out h8).mono ?_; rintro e w5 ⟨rfl, hb5⟩; have HB5 := hide (HB4.out.trans (hb5.mono HB4.out.size)); clear hb5)
        | (go_at_call 20; refine (HAW.out _).mono ?_; rintro e w6 ⟨rfl, hb6⟩; have HB6 := hide (HB5.out.trans (hb6.mono HB5.out.size)); clear hb6))
      go_ret
      exact ⟨rfl, HB6.out⟩
    · have HTO := hide (take10_same h8 ho)
      have HQL : Hid (l.length = q) := by have h1 := HQ.out; rw [HTO.out] at h1; exact h1
      have HYE := hide (fun w' Z k c' Y d (hk : L.length = k) (hX : JobsA w' w'.heap.size Z L) (hY : IntsA w' w'.heap.size Y l) => ends_yes Z k c' L Y q d l w' hk (by omega) hX HQL.out (by omega) hY hv (by rw [← hk, hn]; exact ho))
      have HRE := hide (fun w' (hb : Below w.heap.size w w') => refEnds_any A n c L X m cm l w' hn hL hm (by have := (ordB_iff.1 ho).1; omega) (ordB_iff.1 ho).2.1 (hA.next hb) (hX.next hb))
      have HRN : Hid (rowTo L l m = rowN L l) := by rw [rowN, hm]; exact hide rfl
      rw [HRN.out] at HRE
      have HEN : Hid ((rowN L l).length = n) := by rw [rowN, rowTo_len]; exact hn
      have HN := hide hn
      have HM := hide hm
      rw [hv] at HRV
      rw [ho] at HIO
      clear hv hn hA hm hX ho hL
      generalize rowN L l = en at *
      have HEQ := hide (fun w' Z c' Y d (hX : IntsA w' w'.heap.size Z en) (hY : IntsA w' w'.heap.size Y en) => equal_any Z Y n n c' d w'.heap.size w'.heap.size en en w' HEN.out HEN.out (by omega) hX hY)
      rw [show decide (en = en) = true from decide_eq_true rfl] at HEQ
      go_enter Try.func6, Try.ntmps6
      go_wp2_with (first
        | (go_at_call 18; refine (HOF.out _ HB0.out).mono ?_; rintro e w1 ⟨X1, k1, c1, rfl, hk1, hc1, hx1, hb1⟩; obtain rfl : n = k1 := HKN.out _ hk1; have HX1 := hide (jobs_of_own hx1); have HK1 := hide hk1; have HB1 := hide (HB0.out.trans (hb1.mono HB0.out.size)); clear hx1 hb1 hk1)
        | (go_at_call 28; refine (HLI.out _ HB1.out).mono ?_; rintro e w2 ⟨Y2, d2, rfl, hd2, hY2, hb2, _⟩; have HY2 := hide hY2; have HX1 := hide (HX1.out.next hb2); have HB2 := hide (HB1.out.trans (hb2.mono HB1.out.size)); clear hY2 hb2)
        | (go_at_call 27; refine (HYE.out _ X1 _ c1 Y2 d2 (by rw [← HTK.out]; exact HK1.out) (by rw [← HTK.out]; exact HX1.out) (by have := HY2.out; rw [HTO.out] at this; exact this)).mono ?_; rintro e w3 ⟨Z3, z3, rfl, hz3, hI3, hb3⟩; have HI3 := hide hI3; have HB3 := hide (HB2.out.trans (hb3.mono HB2.out.size)); clear hb3 hI3)
        | (go_at_call 19; refine (HRV.out _ HB3.out).mono ?_; rintro e w4 ⟨rfl, hb4⟩; have HI4 := hide (HI3.out.next hb4); have HB4 := hide (HB3.out.trans (hb4.mono HB3.out.size)); clear hb4)
        | (go_at_call 29; refine (HIO.out _ HB4.out h8).mono ?_; rintro e w5 ⟨rfl, hb5⟩; have HI5 := hide (HI4.out.next hb5); have HB5 := hide (HB4.out.trans (hb5.mono HB4.out.size)); clear hb5)
        | (go_at_call 31; refine (HRE.out _ HB5.out).mono ?_; rintro e w6 ⟨Z6, z6, rfl, hz6, hI6, hb6⟩; have HQ6 := hide hI6; have HI6 := hide (HI5.out.next hb6); have HB6 := hide (HB5.out.trans (hb6.mono HB5.out.size)); clear hb6 hI6)
        | (go_at_call 30; refine (HEQ.out _ Z3 z3 Z6 z6 HI6.out HQ6.out).mono ?_; rintro e w7 ⟨rfl, q7, hw7⟩; have HB7 := hide (below_drewN HB6.out q7); subst hw7)
        | (go_at_call 20; refine (HAW.out _).mono ?_; rintro e w8 ⟨rfl, hb8⟩; have HB8 := hide (HB7.out.trans (hb8.mono HB7.out.size)); clear hb8))
      go_ret
      exact ⟨by simp, HB8.out⟩
end Go.Proofs.Ytiadineakhcclaa
