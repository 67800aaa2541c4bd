/-
  The walk of SwapTrades.
-/
import Derived.Test.YtilnbiaabhdfgaaFewApi
import Derived.Test.YtilnbiaabhdfgaaRefTrade
namespace Go.Proofs.Ytilnbiaabhdfgaa
open Go.RowKit
set_option linter.unusedVariables false
set_option linter.unusedSimpArgs false

set_option maxRecDepth 100000 in
set_option maxHeartbeats 1600000 in
theorem swapTrades_any (A : Option Addr) (n c : Nat) (L : List (List Int)) (w : World) (hn : L.length = n) (hlen : n ≤ 9223372036854775807) (hrow : ∀ l ∈ L, l.length ≤ 9223372036854775807) (hA : RowsA w w.heap.size A L) :
    Calls Try.prog 4 #[.slice A n c] w fun e w' => e = .returned (.bool true) ∧ Below w.heap.size w w' := by
  obtain ⟨q, hq⟩ : ∃ q, (fewL L).length = q := ⟨_, rfl⟩
  have HFE := hide (few_in (c := c) hn hlen hrow hq hA)
  have HVA : Hid (∀ w', Below w.heap.size w w' → Calls Try.prog 24 #[.slice A n c] w' fun e w'' => e = .returned (.bool (validB L)) ∧ w' = w'') := fun w' hw' => refValid_any A n c _ L w' hn hlen hrow (hA.below hw')
  cases hv : validB L
  · rw [hv] at HVA
    have HT := hide (fewTrade_no hq hv)
    have HR := hide (fewRounds_no hq hv)
    clear hv hrow hn hA hq
    go_enter Try.func4, Try.ntmps4
    go_wp2_with fail
    refine (HFE.out _ (Below.refl _ _)).mono ?_
    rintro e w1 ⟨A1, c1, rfl, hq1, hR1, hb1⟩
    go_wp2_with fail
    refine (HT.out _ _ _ hR1).mono ?_
    rintro e w2 ⟨rfl, hb2⟩
    have hb12 := hb1.trans (hb2.mono hb1.size)
    go_wp2_with fail
    refine (HFE.out _ hb12).mono ?_
    rintro e w3 ⟨A3, c3, rfl, hq3, hR3, hb3⟩
    have hb13 := hb12.trans (hb3.mono hb12.size)
    go_wp2_with fail
    refine (HR.out _ _ _ hR3).mono ?_
    rintro e w4 ⟨rfl, hb4⟩
    have hb14 := hb13.trans (hb4.mono hb13.size)
    clear hb1 hb2 hb3 hb4 hb12 hb13
    go_wp2_with (first
      | (go_at_call 24; refine (HVA.out _ hb14).mono ?_; rintro e w5 ⟨rfl, rfl⟩)
      | (go_at_call 21; refine (awake_any _).mono ?_; rintro e w6 ⟨rfl, hb6⟩))
    go_ret
    exact ⟨rfl, hb14.trans (hb6.mono hb14.size)⟩
  · rw [hv] at HVA
    have hqn : q = n := by rw [← hq, few_same hv, hn]
    subst hqn
    obtain ⟨hu, hok'⟩ := valid_ok hv
    have hok : WOk (toNN L) q := by rw [← hn]; exact hok'
    have HT := hide (fewTrade_yes hn hv)
    have HR := hide (fewRounds_yes hn hv)
    have HA : Hid (RowsA w w.heap.size A (upp (toNN L))) := by rw [hu]; exact hA
    clear hv hrow hn hA hq hu hok'
    generalize toNN L = W at *
    have h5 := hok.le
    have hl1 : Hid ((up (tradeN W)).length = q) := by show _ = _; simp [tradeN, listF, hok.len]
    have hl2 : Hid ((up (roundsN W)).length = q) := by show _ = _; simp [roundsN, listF, hok.len]
    go_enter Try.func4, Try.ntmps4
    go_wp2_with fail
    refine (HFE.out _ (Below.refl _ _)).mono ?_
    rintro e w1 ⟨A1, c1, rfl, hq1, hR1, hb1⟩
    go_wp2_with fail
    refine (HT.out _ _ _ hR1).mono ?_
    rintro e w2 ⟨O2, k2, rfl, hI2, hb2⟩
    have hb12 := hb1.trans (hb2.mono hb1.size)
    go_wp2_with fail
    refine (HFE.out _ hb12).mono ?_
    rintro e w3 ⟨A3, c3, rfl, hq3, hR3, hb3⟩
    have hb13 := hb12.trans (hb3.mono hb12.size)
    go_wp2_with fail
    refine (HR.out _ _ _ hR3).mono ?_
    rintro e w4 ⟨O4, k4, rfl, hI4, hb4⟩
    have hb14 := hb13.trans (hb4.mono hb13.size)
    have hI2' := (hI2.next hb3).next hb4
    clear hb1 hb2 hb3 hb4 hb12 hb13 hI2 hR1 hR3
    go_wp2_with fail
    refine (HVA.out _ hb14).mono ?_
    rintro e w5 ⟨rfl, rfl⟩
    go_wp2_with fail
    refine (refTrade_any A q c _ W w4 hok (HA.out.below hb14)).mono ?_
    rintro e w6 ⟨O6, k6, rfl, hI6, hb6⟩
    have hb16 := hb14.trans (hb6.mono hb14.size)
    go_wp2_with fail
    refine (equal_any O2 O6 q q k2 k6 _ _ _ _ w6 hl1.out hl1.out (by omega) (hI2'.next hb6) hI6).mono ?_
    rintro e w7 ⟨rfl, m, rfl⟩
    have hb17 := below_drewN hb16 m
    have hI4' : IntsA (w6.drewN m) (w6.drewN m).heap.size O4 (up (roundsN W)) := (hI4.next hb6).keep fun _ _ => rfl
    simp only [decide_true]
    clear hb6 hI4 hI2' hI6 hb14 hb16
    generalize w6.drewN m = w7 at *
    go_wp2_with fail
    refine (refRounds_any A q c _ W w7 hok (HA.out.below hb17)).mono ?_
    rintro e w8 ⟨O8, k8, rfl, hI8, hb8⟩
    have hb18 := hb17.trans (hb8.mono hb17.size)
    go_wp2_with fail
    refine (equal_any O4 O8 q q k4 k8 _ _ _ _ w8 hl2.out hl2.out (by omega) (hI4'.next hb8) hI8).mono ?_
    rintro e w9 ⟨rfl, m', rfl⟩
    have hb19 := below_drewN hb18 m'
    simp only [decide_true]
    clear hb8 hI4' hI8 hb17 hb18
    generalize w8.drewN m' = w9 at *
    go_wp2_with (go_at_call 21; refine (awake_any _).mono ?_; rintro e w10 ⟨rfl, hb10⟩)
    go_ret
    exact ⟨rfl, hb19.trans (hb10.mono hb19.size)⟩
end Go.Proofs.Ytilnbiaabhdfgaa
