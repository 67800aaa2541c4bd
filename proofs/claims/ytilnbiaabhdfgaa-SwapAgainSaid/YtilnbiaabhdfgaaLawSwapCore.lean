/-
  The walk of SwapCore.
-/
import Derived.Test.YtilnbiaabhdfgaaFine
import Derived.Test.YtilnbiaabhdfgaaCorePlain
namespace Go.Proofs.Ytilnbiaabhdfgaa
open Go.RowKit
set_option linter.unusedVariables false
set_option linter.unusedSimpArgs false

theorem fewObjects_no {q q2 : Nat} {L : List (List Int)} {l : List Int} (hq : (fewL L).length = q) (hq2 : (l.take 7).length = q2) (h : fineB L l = false) (A' X' : Option Addr) (c' cx : Nat) (w1 : World) (hA : RowsA w1 w1.heap.size A' (fewL L)) (hX : IntsA w1 w1.heap.size X' (l.take 7)) :
    Calls Try.prog 43 #[.slice A' q c', .slice X' q2 cx] w1 fun e w' => e = .returned (.tuple #[.int .i64 0, .int .i64 2]) ∧ Below w1.heap.size w1 w' :=
  Objects_no A' X' q c' q2 cx _ _ (fewL L) (l.take 7) w1 hq (by rw [← hq]; exact few_len L) (few_rows L) hA hq2 (by rw [← hq2]; exact take_len l) hX (few_no hq h)
theorem okObjects {n : Nat} {L : List (List Int)} {W : List (List Nat)} (h : NatsOf L n W) {o : List Nat} (ho : Ord o n) (A' X' : Option Addr) (c' cx : Nat) (w1 : World) (hA : RowsA w1 w1.heap.size A' L) (hX : IntsA w1 w1.heap.size X' (up o)) :
    Calls Try.prog 43 #[.slice A' n c', .slice X' n cx] w1 (ObjRes (objectsN W n o) w1) := by
  have := Objects_yes A' X' n c' cx _ _ L (up o) w1 h.len hA hX h.valid (ord_B ho)
  rwa [h.toNN, toN_up] at this

set_option maxRecDepth 100000 in
set_option maxHeartbeats 3200000 in
theorem swapCore_any (A : Option Addr) (n c : Nat) (L : List (List Int)) (X : Option Addr) (m cm : Nat) (l : List Int) (w : World) (hn : L.length = n) (hlen : n ≤ 9223372036854775807) (hrow : ∀ l ∈ L, l.length ≤ 9223372036854775807) (hA : RowsA w w.heap.size A L)
    (hm : l.length = m) (hmc : m ≤ cm) (hlm : m ≤ 9223372036854775807) (hX : IntsA w w.heap.size X l) :
    Calls Try.prog 13 #[.slice A n c, .slice X m cm] w fun e w' => e = .returned (.bool true) ∧ Below w.heap.size w w' := by
  obtain ⟨q, hq⟩ : ∃ q, (fewL L).length = q := ⟨_, rfl⟩
  obtain ⟨q2, hq2⟩ : ∃ q2, (l.take 7).length = q2 := ⟨_, rfl⟩
  have HFE := hide (few_in (c := c) hn hlen hrow hq hA)
  have HLI := hide (list_in hm hmc hlm hq2 hX)
  cases hv : validB L
  · have HT := hide (fewTrade_no hq hv)
    clear hv hrow hn hA hq hq2 hm hX
    go_enter Try.func13, Try.ntmps13
    go_wp2_with fail
    refine (HFE.out _ (Below.refl _ _)).mono ?_
    rintro e w1 ⟨A1, c1, rfl, hq1, hR1, hb1⟩
    go_wp2_with fail
    refine (HT.out _ _ _ hR1).mono ?_
    rintro e w2 ⟨rfl, hb2⟩
    have hb12 := hb1.trans (hb2.mono hb1.size)
    clear hb1 hb2 hR1
    go_wp2_with (go_at_call 21; refine (awake_any _).mono ?_; rintro e w6 ⟨rfl, hb6⟩)
    go_ret
    exact ⟨rfl, hb12.trans (hb6.mono hb12.size)⟩
  · obtain ⟨W, hW⟩ : ∃ W, NatsOf L n W := ⟨_, nats_of hv hn⟩
    have hqn : q = n := by rw [← hq, few_same hv, hn]
    subst hqn
    have h5 := hW.ok.le
    have HTR := hide (okTrade hW)
    have HOT := hide (okObjects hW (tradeN_ord hW.ok))
    rw [core_trade hW.ok] at HOT
    have HTL : Hid ((tradeN W).length = q) := (tradeN_ord hW.ok).len
    cases hf : fineB L l
    · have HON := hide (fewObjects_no hq hq2 hf)
      rw [few_same hv] at HFE HON
      clear hv hrow hn hA hq hq2 hm hX hf hW
      go_enter Try.func13, Try.ntmps13
      go_wp2_with fail
      refine (HFE.out _ (Below.refl _ _)).mono ?_
      rintro e w1 ⟨A1, c1, rfl, hq1, hR1, hb1⟩
      go_wp2_with fail
      refine (HTR.out _ _ _ hR1).mono ?_
      rintro e w2 ⟨O2, k2, rfl, hI2, hb2⟩
      have hb12 := hb1.trans (hb2.mono hb1.size)
      clear hb1 hb2 hR1
      go_wp2_with fail
      refine (HFE.out _ hb12).mono ?_
      rintro e w3 ⟨A3, c3, rfl, hq3, hR3, hb3⟩
      have hb13 := hb12.trans (hb3.mono hb12.size)
      go_wp2_with fail
      refine (HOT.out _ _ _ _ _ hR3 (hI2.next hb3)).mono ?_
      rintro e w4 ⟨rfl, hb4⟩
      have hb14 := hb13.trans (hb4.mono hb13.size)
      clear hb12 hb13 hR3 hb3 hb4 hI2
      go_wp2_with fail
      refine (HFE.out _ hb14).mono ?_
      rintro e w5 ⟨A5, c5, rfl, hq5, hR5, hb5⟩
      have hb15 := hb14.trans (hb5.mono hb14.size)
      go_wp2_with fail
      refine (HLI.out _ hb15).mono ?_
      rintro e w6 ⟨X6, c6, rfl, hq6, hI6, hb6⟩
      have hb16 := hb15.trans (hb6.mono hb15.size)
      go_wp2_with fail
      refine (HON.out _ _ _ _ _ (hR5.next hb6) hI6).mono ?_
      rintro e w7 ⟨rfl, hb7⟩
      have hb17 := hb16.trans (hb7.mono hb16.size)
      clear hb14 hb15 hb16 hR5 hb5 hI6 hb6 hb7
      go_wp2_with (go_at_call 21; refine (awake_any _).mono ?_; rintro e w8 ⟨rfl, hb8⟩)
      go_ret
      exact ⟨rfl, hb17.trans (hb8.mono hb17.size)⟩
    · obtain ⟨_, hol⟩ := fine_parts.1 hf
      obtain ⟨he1, he2⟩ := fine_same hf
      rw [he1] at HFE
      rw [he2] at hq2 HLI
      rw [hn] at hol
      rw [hm] at hq2
      obtain ⟨hul, ho⟩ := ord_of hol
      obtain ⟨o, hoo⟩ : ∃ o, o = toN l := ⟨_, rfl⟩
      rw [← hoo] at hul ho
      have hmn : m = q := by rw [← hm, ← hul, up_length, ho.len]
      subst hmn
      subst hq2
      subst hul
      have HOO := hide (okObjects hW ho)
      have HOL := hide ho.len
      have HX := hide hX
      have hco := core_other hW.ok ho
      have HPO : Hid (∀ M, objectsN W m o = some M → 0 < M) := fun M h => objectsN_pos h
      have heq : decide (up (tradeN W) = up o) = (objectsN W m o).isNone := by
        rw [Bool.eq_iff_iff]; simp only [decide_eq_true_eq, Option.isNone_iff_eq_none]; rw [up_inj, hco]
      have HEQ := hide heq
      generalize objectsN W m o = r at *
      clear hv hrow hn hA hq hm hX hf hW hol he1 he2 ho hoo hco heq
      go_enter Try.func13, Try.ntmps13
      go_wp2_with fail
      refine (HFE.out _ (Below.refl _ _)).mono ?_
      rintro e w1 ⟨A1, c1, rfl, hq1, hR1, hb1⟩
      go_wp2_with fail
      refine (HTR.out _ _ _ hR1).mono ?_
      rintro e w2 ⟨O2, k2, rfl, hI2, hb2⟩
      have hb12 := hb1.trans (hb2.mono hb1.size)
      clear hb1 hb2 hR1
      go_wp2_with fail
      refine (HFE.out _ hb12).mono ?_
      rintro e w3 ⟨A3, c3, rfl, hq3, hR3, hb3⟩
      have hb13 := hb12.trans (hb3.mono hb12.size)
      have hI3 := hI2.next hb3
      go_wp2_with fail
      refine (HOT.out _ _ _ _ _ hR3 hI3).mono ?_
      rintro e w4 ⟨rfl, hb4⟩
      have hb14 := hb13.trans (hb4.mono hb13.size)
      have hI4 := hI3.next hb4
      clear hb12 hb13 hR3 hb3 hb4 hI2 hI3
      go_wp2_with fail
      refine (HFE.out _ hb14).mono ?_
      rintro e w5 ⟨A5, c5, rfl, hq5, hR5, hb5⟩
      have hb15 := hb14.trans (hb5.mono hb14.size)
      have hI5 := hI4.next hb5
      go_wp2_with fail
      refine (HLI.out _ hb15).mono ?_
      rintro e w6 ⟨X6, c6, rfl, hq6, hI6, hb6⟩
      have hb16 := hb15.trans (hb6.mono hb15.size)
      have hI6' := hI5.next hb6
      go_wp2_with fail
      refine (HOO.out _ _ _ _ _ (hR5.next hb6) hI6).mono ?_
      rintro e w7 ⟨rfl, hb7⟩
      have hb17 := hb16.trans (hb7.mono hb16.size)
      have hI7 := hI6'.next hb7
      clear hb14 hb15 hb16 hR5 hb5 hI6 hb6 hb7 hI4 hI5 hI6'
      cases r with
      | none =>
        go_wp2_with (first
          | (go_at_call 25; refine (equal_any O2 X m m k2 cm _ _ (up (tradeN W)) (up o) w7 (by rw [up_length]; exact HTL.out) (by rw [up_length]; exact HOL.out) (by omega) hI7 (HX.out.below hb17)).mono ?_; rintro e w8 ⟨rfl, d, rfl⟩; rw [HEQ.out]; have hb18 := below_drewN hb17 d; generalize w7.drewN d = w8 at *)
          | (go_at_call 21; refine (awake_any _).mono ?_; rintro e w9 ⟨rfl, hb9⟩))
        go_ret
        exact ⟨rfl, hb18.trans (hb9.mono hb18.size)⟩
      | some M =>
        have hp := HPO.out M rfl
        have hM0 : (0 : Int) < (M : Int) := by omega
        go_wp2_with (first
          | (go_at_call 25; refine (equal_any O2 X m m k2 cm _ _ (up (tradeN W)) (up o) w7 (by rw [up_length]; exact HTL.out) (by rw [up_length]; exact HOL.out) (by omega) hI7 (HX.out.below hb17)).mono ?_; rintro e w8 ⟨rfl, d, rfl⟩; rw [HEQ.out]; have hb18 := below_drewN hb17 d; generalize w7.drewN d = w8 at *)
          | (go_at_call 21; refine (awake_any _).mono ?_; rintro e w9 ⟨rfl, hb9⟩))
        go_ret
        exact ⟨rfl, hb18.trans (hb9.mono hb18.size)⟩
end Go.Proofs.Ytilnbiaabhdfgaa
