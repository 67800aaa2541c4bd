/-
  The walk of DatesLeast.
-/
import Derived.Test.YtiadineakhcclaaDLeastY
import Derived.Test.YtiadineakhcclaaRefLeast
import Derived.Test.YtiadineakhcclaaDAwake
import Derived.Test.YtiadineakhcclaaDOf
import Derived.Test.YtiadineakhcclaaDRefValid
namespace Go.Proofs.Ytiadineakhcclaa
open Go.RowKit Go.Deep
set_option linter.unusedVariables false
set_option linter.unusedSimpArgs false

theorem okBef_take (P : List (Int × Int)) (n : Nat) : okBef (P.take 18) n = okBef P n := by
  by_cases h : P.length ≤ 18
  · rw [List.take_of_length_le h]
  · unfold okBef
    rw [List.length_take, decide_eq_false (show ¬ min 18 P.length ≤ 16 by omega), decide_eq_false (show ¬ P.length ≤ 16 by omega), Bool.and_false, Bool.and_false]
theorem okBef_len {P : List (Int × Int)} {n : Nat} (h : okBef P n = true) : P.take 18 = P := List.take_of_length_le (by
  unfold okBef at h
  rw [Bool.and_eq_true, decide_eq_true_iff] at h
  omega)
set_option maxRecDepth 100000 in
set_option maxHeartbeats 3200000 in
theorem datesLeast_any (A : Option Addr) (n c : Nat) (L : List J4) (PA : Option Addr) (m pc : Nat) (P : List (Int × Int)) (w : World) (hn : L.length = n) (hlen : n ≤ 9223372036854775807) (hA : JobsA w w.heap.size A L) (hm : P.length = m) (hmc : m ≤ pc) (hmm : m ≤ 9223372036854775807) (hP : PrsA w w.heap.size PA P) :
    Calls Try.prog 11 #[.slice A n c, .slice PA m pc] w fun e w' => e = .returned (.bool true) ∧ Below w.heap.size w w' := by
  have HB0 : Hid (Below w.heap.size w w) := hide (Below.refl _ _)
  have HAW := hide (fun w' => awake_any w')
  have HRV := hide (fun w' (hb : Below w.heap.size w w') => drefvalid_any A n c L w' hn hlen (hA.next hb))
  have HRB := hide (fun w' (hb : Below w.heap.size w w') => refBefores_any A n c PA m pc P w' hlen hm hmm (hP.next hb))
  obtain ⟨q, hq⟩ : ∃ q, (P.take 18).length = q := ⟨_, rfl⟩
  have hq18 : q ≤ 18 := by rw [← hq, List.length_take]; omega
  have HPR := hide (fun w' (hb : Below w.heap.size w w') => pairs_any PA m pc P w' hm hmc hmm (hP.next hb))
  rw [hq] at HPR
  cases hv : jobsB L
  · have HOF : Hid (∀ w', Below w.heap.size w w' → Calls Try.prog 18 #[.slice A n c] w' fun e w'' => ∃ X k c', e = .returned (.slice X k c') ∧ (L.take 10).length = k ∧ JobsA w'' w''.heap.size X (L.take 10) ∧ Below w'.heap.size w' w'') := fun w' hb =>
      (of_any A n c L w' hn hlen (hA.next hb)).mono fun e w'' ⟨X, k, c', h1, h2, h3, h4, h5⟩ => ⟨X, k, c', h1, h2, jobs_of_own h4, h5⟩
    have HLE := hide (fun w' X k c' Y d (hk : (L.take 10).length = k) (hX : JobsA w' w'.heap.size X (L.take 10)) (hY : PrsA w' w'.heap.size Y (P.take 18)) => least_arg X k c' (L.take 10) Y q d (P.take 18) w' hk (by rw [← hk, List.length_take]; omega) hq (by omega) hX hY (.inl (by rw [jobsB_take]; exact hv)))
    rw [hv] at HRV
    clear hv hn hA hm hP hq
    go_enter Try.func11, Try.ntmps11
    go_wp2_with (first
      | (go_at_call 18; (with_reducible refine (HOF.out _ HB0.out).mono ?_); rintro e w1 ⟨X1, k1, c1, rfl, hk1, hx1, hb1⟩; have HX1 := hide hx1; have HK1 := hide hk1; have HB1 := hide (HB0.out.trans (hb1.mono HB0.out.size)); clear hx1 hb1 hk1)
      | (go_at_call 41; (with_reducible refine (HPR.out _ HB1.out).mono ?_); rintro e w2 ⟨Y2, d2, rfl, hy2, hb2⟩; have HY2 := hide hy2; have HX1 := hide (HX1.out.next hb2); have HB2 := hide (HB1.out.trans (hb2.mono HB1.out.size)); clear hy2 hb2)
      | (go_at_call 40; (with_reducible refine (HLE.out _ X1 k1 c1 Y2 d2 HK1.out HX1.out HY2.out).mono ?_); rintro e w3 ⟨rfl, hb3⟩; have HB3 := hide (HB2.out.trans (hb3.mono HB2.out.size)); clear hb3)
      | (go_at_call 19; (with_reducible refine (HRV.out _ HB3.out).mono ?_); rintro e w4 ⟨rfl, hb4⟩; have HB4 := hide (HB3.out.trans (hb4.mono HB3.out.size)); clear hb4)
      | (go_at_call 20; (with_reducible refine (HAW.out _).mono ?_); rintro e w5 ⟨rfl, hb5⟩; have HB5 := hide (HB4.out.trans (hb5.mono HB4.out.size)); clear hb5))
    go_ret
    exact ⟨rfl, HB5.out⟩
  · have hL := jobsB_iff.1 hv
    have h8 : n ≤ 8 := by rw [← hn]; exact hL.le
    have h1n : 1 ≤ n := by rw [← hn]; exact hL.pos
    have HOF : Hid (∀ w', Below w.heap.size w w' → Calls Try.prog 18 #[.slice A n c] w' fun e w'' => ∃ X c', e = .returned (.slice X n c') ∧ JobsA w'' w''.heap.size X L ∧ Below w'.heap.size w' w'') := fun w' hb =>
      (of_any A n c L w' hn hlen (hA.next hb)).mono fun e w'' ⟨X, k, c', h1, h2, h3, h4, h5⟩ => by
        have h6 := jobs_of_own h4
        rw [hL.take] at h2 h6
        rw [hn] at h2; subst h2
        exact ⟨X, c', h1, h6, h5⟩
    cases ho : okBef P n
    · have HLE := hide (fun w' X c' Y d (hX : JobsA w' w'.heap.size X L) (hY : PrsA w' w'.heap.size Y (P.take 18)) => least_arg X n c' L Y q d (P.take 18) w' hn hlen hq (by omega) hX hY (.inr ⟨hv, by rw [okBef_take]; exact ho⟩))
      rw [hv] at HRV
      rw [ho] at HRB
      clear hv hn hA hm hP hq ho hL
      go_enter Try.func11, Try.ntmps11
      go_wp2_with (first
        | (go_at_call 18; (with_reducible refine (HOF.out _ HB0.out).mono ?_); rintro e w1 ⟨X1, c1, rfl, hx1, hb1⟩; have HX1 := hide hx1; have HB1 := hide (HB0.out.trans (hb1.mono HB0.out.size)); clear hx1 hb1)
        | (go_at_call 41; (with_reducible refine (HPR.out _ HB1.out).mono ?_); rintro e w2 ⟨Y2, d2, rfl, hy2, hb2⟩; have HY2 := hide hy2; have HX1 := hide (HX1.out.next hb2); have HB2 := hide (HB1.out.trans (hb2.mono HB1.out.size)); clear hy2 hb2)
        | (go_at_call 40; (with_reducible refine (HLE.out _ X1 c1 Y2 d2 HX1.out HY2.out).mono ?_); rintro e w3 ⟨rfl, hb3⟩; have HB3 := hide (HB2.out.trans (hb3.mono HB2.out.size)); clear hb3)
        | (go_at_call 19; (with_reducible refine (HRV.out _ HB3.out).mono ?_); rintro e w4 ⟨rfl, hb4⟩; have HB4 := hide (HB3.out.trans (hb4.mono HB3.out.size)); clear hb4)
        | (go_at_call 42; (with_reducible refine (HRB.out _ HB4.out).mono ?_); rintro e w5 ⟨rfl, hb5⟩; have HB5 := hide (HB4.out.trans (hb5.mono HB4.out.size)); clear hb5)
        | (go_at_call 20; (with_reducible refine (HAW.out _).mono ?_); rintro e w6 ⟨rfl, hb6⟩; have HB6 := hide (HB5.out.trans (hb6.mono HB5.out.size)); clear hb6))
      go_ret
      exact ⟨rfl, HB6.out⟩
    · have hpo : prsOk P n = true := by unfold okBef at ho; rw [Bool.and_eq_true] at ho; exact ho.1
      have htk := okBef_len ho
      have hgr := fun r (h : worstF L (befB P n) n 0 = some r) => (gr_ok (L := L) (B := befB P n) (v := r) (worst_bd hL _ _ _ h).1 n 0 r h (Int.le_refl _)).2.1
      rw [atS_zero] at hgr
      have HLE0 := fun w' X c' Y d (hX : JobsA w' w'.heap.size X L) (hY : PrsA w' w'.heap.size Y (P.take 18)) => least_yes X n c' L Y q d P w' hn hlen (by rw [← htk]; exact hq) (by omega) hX (by rw [← htk]; exact hY) hv ho
      have HRL0 := fun w' (hb : Below w.heap.size w w') => refLeast_any A n c L PA m pc P w' hn hL hm hmm hpo (hA.next hb) (hP.next hb)
      unfold LeastPost at HLE0
      cases hw : worstF L (befB P n) n 0 with
      | none =>
        rw [hw] at HLE0 HRL0
        have HLE : Hid (∀ w' X c' Y d, JobsA w' w'.heap.size X L → PrsA w' w'.heap.size Y (P.take 18) → Calls Try.prog 40 #[.slice X n c', .slice Y q d] w' fun e w'' => e = .returned (.tuple #[.slice none 0 0, .int .i64 0, .int .i64 6]) ∧ Below w'.heap.size w' w'') := fun w' X c' Y d hX hY => (HLE0 w' X c' Y d hX hY).mono fun e w'' ⟨h, hb⟩ => ⟨(by
          rcases h with ⟨_, h⟩ | ⟨r, _, _, h, _⟩
          · exact h
          · cases h), hb⟩
        have HRL : Hid (∀ w', Below w.heap.size w w' → Calls Try.prog 43 #[.slice A n c, .slice PA m pc] w' fun e w'' => e = .returned (.tuple #[.slice none 0 0, .int .i64 0, .int .i64 6]) ∧ Below w'.heap.size w' w'') := fun w' hb => (HRL0 w' hb).mono fun e w'' ⟨h, hb⟩ => ⟨(by
          rcases h with ⟨_, h⟩ | ⟨r, _, _, h, _⟩
          · exact h
          · cases h), hb⟩
        have HEQ := hide (fun w' => equal_any none none 0 0 0 0 0 0 [] [] w' rfl rfl (by omega) IntsA.nil_ IntsA.nil_)
        rw [show decide (([] : List Int) = []) = true from rfl] at HEQ
        rw [hv] at HRV
        rw [ho] at HRB
        clear hv hn hA hm hP hq ho hL hgr HLE0 HRL0 hw htk hpo
        go_enter Try.func11, Try.ntmps11
        go_wp2_with (first
          | (go_at_call 18; (with_reducible refine (HOF.out _ HB0.out).mono ?_); rintro e w1 ⟨X1, c1, rfl, hx1, hb1⟩; have HX1 := hide hx1; have HB1 := hide (HB0.out.trans (hb1.mono HB0.out.size)); clear hx1 hb1)
          | (go_at_call 41; (with_reducible refine (HPR.out _ HB1.out).mono ?_); rintro e w2 ⟨Y2, d2, rfl, hy2, hb2⟩; have HY2 := hide hy2; have HX1 := hide (HX1.out.next hb2); have HB2 := hide (HB1.out.trans (hb2.mono HB1.out.size)); clear hy2 hb2)
          | (go_at_call 40; (with_reducible refine (HLE.out _ X1 c1 Y2 d2 HX1.out HY2.out).mono ?_); rintro e w3 ⟨rfl, hb3⟩; have HB3 := hide (HB2.out.trans (hb3.mono HB2.out.size)); clear hb3)
          | (go_at_call 19; (with_reducible refine (HRV.out _ HB3.out).mono ?_); rintro e w4 ⟨rfl, hb4⟩; have HB4 := hide (HB3.out.trans (hb4.mono HB3.out.size)); clear hb4)
          | (go_at_call 42; (with_reducible refine (HRB.out _ HB4.out).mono ?_); rintro e w5 ⟨rfl, hb5⟩; have HB5 := hide (HB4.out.trans (hb5.mono HB4.out.size)); clear hb5)
          | (go_at_call 43; (with_reducible refine (HRL.out _ HB5.out).mono ?_); rintro e w6 ⟨rfl, hb6⟩; have HB6 := hide (HB5.out.trans (hb6.mono HB5.out.size)); clear hb6)
          | (go_at_call 30; refine (HEQ.out _).mono ?_; rintro e w7 ⟨rfl, q7, hw7⟩; have HB7 := hide (below_drewN HB6.out q7); subst hw7)
          | (go_at_call 20; (with_reducible refine (HAW.out _).mono ?_); rintro e w8 ⟨rfl, hb8⟩; have HB8 := hide (HB7.out.trans (hb8.mono HB7.out.size)); clear hb8))
        go_ret
        exact ⟨by simp, HB8.out⟩
      | some r =>
        have hgl := hgr r hw
        rw [hw] at HLE0 HRL0
        obtain ⟨g, hg⟩ : ∃ g, g = gr L (befB P n) n 0 0 r := ⟨_, rfl⟩
        rw [← hg] at hgl
        have HLE : Hid (∀ w' X c' Y d, JobsA w' w'.heap.size X L → PrsA w' w'.heap.size Y (P.take 18) → Calls Try.prog 40 #[.slice X n c', .slice Y q d] w' fun e w'' => ∃ Z zc, e = .returned (.tuple #[.slice Z n zc, .int .i64 r, .int .i64 0]) ∧ IntsA w'' w''.heap.size Z (up g) ∧ Below w'.heap.size w' w'') := fun w' X c' Y d hX hY => (HLE0 w' X c' Y d hX hY).mono fun e w'' ⟨h, hb⟩ => by
          rcases h with ⟨h, _⟩ | ⟨r', Z, zc, h1, h2, h3, h4⟩
          · cases h
          · injection h1 with h1; subst h1; rw [← hg] at h4; exact ⟨Z, zc, h2, h4, hb⟩
        have HRL : Hid (∀ w', Below w.heap.size w w' → Calls Try.prog 43 #[.slice A n c, .slice PA m pc] w' fun e w'' => ∃ Z zc, e = .returned (.tuple #[.slice Z n zc, .int .i64 r, .int .i64 0]) ∧ IntsA w'' w''.heap.size Z (up g) ∧ Below w'.heap.size w' w'') := fun w' hb => (HRL0 w' hb).mono fun e w'' ⟨h, hb⟩ => by
          rcases h with ⟨h, _⟩ | ⟨r', Z, zc, h1, h2, h3, h4⟩
          · cases h
          · injection h1 with h1; subst h1; rw [← hg] at h4; exact ⟨Z, zc, h2, h4, hb⟩
        have HGL : Hid ((up g).length = n) := by show _ = _; rw [up_length]; exact hgl
        generalize up g = ug at *
        have HEQ := hide (fun w' Z c' Y d (hX : IntsA w' w'.heap.size Z ug) (hY : IntsA w' w'.heap.size Y ug) => equal_any Z Y n n c' d w'.heap.size w'.heap.size ug ug w' HGL.out HGL.out (by omega) hX hY)
        rw [show decide (ug = ug) = true from decide_eq_true rfl] at HEQ
        rw [hv] at HRV
        rw [ho] at HRB
        clear hv hn hA hm hP hq ho hL hgr HLE0 HRL0 hw htk hpo hgl hg
        go_enter Try.func11, Try.ntmps11
        go_wp2_with (first
          | (go_at_call 18; (with_reducible refine (HOF.out _ HB0.out).mono ?_); rintro e w1 ⟨X1, c1, rfl, hx1, hb1⟩; have HX1 := hide hx1; have HB1 := hide (HB0.out.trans (hb1.mono HB0.out.size)); clear hx1 hb1)
          | (go_at_call 41; (with_reducible refine (HPR.out _ HB1.out).mono ?_); rintro e w2 ⟨Y2, d2, rfl, hy2, hb2⟩; have HY2 := hide hy2; have HX1 := hide (HX1.out.next hb2); have HB2 := hide (HB1.out.trans (hb2.mono HB1.out.size)); clear hy2 hb2)
          | (go_at_call 40; (with_reducible refine (HLE.out _ X1 c1 Y2 d2 HX1.out HY2.out).mono ?_); rintro e w3 ⟨Z3, z3, rfl, hI3, hb3⟩; have HB3 := hide (HB2.out.trans (hb3.mono HB2.out.size)); have HI3 := hide hI3; clear hI3; clear hb3)
          | (go_at_call 19; (with_reducible refine (HRV.out _ HB3.out).mono ?_); rintro e w4 ⟨rfl, hb4⟩; have HB4 := hide (HB3.out.trans (hb4.mono HB3.out.size)); have HI3 := hide (HI3.out.next hb4); clear hb4)
          | (go_at_call 42; (with_reducible refine (HRB.out _ HB4.out).mono ?_); rintro e w5 ⟨rfl, hb5⟩; have HB5 := hide (HB4.out.trans (hb5.mono HB4.out.size)); have HI3 := hide (HI3.out.next hb5); clear hb5)
          | (go_at_call 43; (with_reducible refine (HRL.out _ HB5.out).mono ?_); rintro e w6 ⟨Z6, z6, rfl, hI6, hb6⟩; have HB6 := hide (HB5.out.trans (hb6.mono HB5.out.size)); have HI3 := hide (HI3.out.next hb6); have HI6 := hide hI6; clear hI6; clear hb6)
          | (go_at_call 30; refine (HEQ.out _ Z3 z3 Z6 z6 HI3.out HI6.out).mono ?_; rintro e w7 ⟨rfl, q7, hw7⟩; have HB7 := hide (below_drewN HB6.out q7); subst hw7)
          | (go_at_call 20; (with_reducible refine (HAW.out _).mono ?_); rintro e w8 ⟨rfl, hb8⟩; have HB8 := hide (HB7.out.trans (hb8.mono HB7.out.size)); clear hb8))
        go_ret
        exact ⟨by simp, HB8.out⟩
end Go.Proofs.Ytiadineakhcclaa
