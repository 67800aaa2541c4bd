/-
  The walk of SwapGiven.
-/
import Derived.Test.YtilnbiaabhdfgaaFine
import Derived.Test.YtilnbiaabhdfgaaSame
import Derived.Test.YtilnbiaabhdfgaaRefTally
namespace Go.Proofs.Ytilnbiaabhdfgaa
open Go.RowKit
set_option linter.unusedVariables false
set_option linter.unusedSimpArgs false

theorem tally_rows (n : Nat) (f : List Nat → List Nat) (hn : n ≤ 5) : ∀ l ∈ upp (tallyN n f), l.length ≤ 9223372036854775807 := fun l hl => by
  simp only [upp, tallyN, List.mem_map] at hl
  obtain ⟨r, ⟨i, hi, rfl⟩, rfl⟩ := hl
  simp; omega

set_option maxRecDepth 100000 in
set_option maxHeartbeats 1600000 in
theorem swapGiven_any (A : Option Addr) (n c : Nat) (L : List (List Int)) (w : World) (hn : L.length = n) (hlen : n ≤ 9223372036854775807) (hrow : ∀ l ∈ L, l.length ≤ 9223372036854775807) (hA : RowsA w w.heap.size A L) :
    Calls Try.prog 7 #[.slice A n c] w fun e w' => e = .returned (.bool true) ∧ Below w.heap.size w w' := by
  obtain ⟨q, hq⟩ : ∃ q, (fewL L).length = q := ⟨_, rfl⟩
  have HFE := hide (few_in (c := c) hn hlen hrow hq hA)
  have HVA := hide (valid_in (c := c) hn hlen hrow hA)
  cases hv : validB L
  · rw [hv] at HVA
    have HT := hide (fewGiven_no hq hv)
    clear hv hrow hn hA hq
    go_enter Try.func7, Try.ntmps7
    have hb := Below.refl w.heap.size w
    go_wp2_with fail
    refine (HFE.out _ hb).mono ?_
    rintro e w1 ⟨A1, c1, rfl, hq1, hR1, hbn⟩
    replace hb := hb.trans (hbn.mono hb.size)
    clear hbn
    go_wp2_with fail
    refine (HT.out _ _ _ hR1).mono ?_
    rintro e w2 ⟨rfl, hbn⟩
    replace hR1 := hR1.next hbn
    replace hb := hb.trans (hbn.mono hb.size)
    clear hbn
    clear hR1
    go_wp2_with fail
    refine (HVA.out _ hb).mono ?_
    rintro e w3 ⟨rfl, rfl⟩
    go_wp2_with fail
    refine (awake_any _).mono ?_
    rintro e w4 ⟨rfl, hbn⟩
    replace hb := hb.trans (hbn.mono hb.size)
    clear hbn
    go_wp2
    go_ret
    exact ⟨rfl, hb⟩
  · rw [hv] at HVA
    have hqn : q = n := by rw [← hq, few_same hv, hn]
    subst hqn
    obtain ⟨W, hW⟩ : ∃ W, NatsOf L q W := ⟨_, nats_of hv hn⟩
    rw [few_same hv] at HFE
    have HG := hide (okGiven hW)
    have h5 := hW.ok.le
    have hTL : (upp (givenN W)).length = q := by rw [upp_length, givenN, tallyN_len, hW.ok.len]
    have HT : Hid (∀ w', Below w.heap.size w w' → Calls Try.prog 32 #[.slice A q c] w' (TableRes q (givenN W) w')) := fun w' hw' => by
      have h := refGiven_any A q c W w' hW.ok (by rw [hW.eq]; exact hA.next hw')
      rw [givenN, hW.ok.len]; exact h
    have HTL := hide hTL
    have HTR : Hid (∀ l ∈ upp (givenN W), l.length ≤ 9223372036854775807) := tally_rows _ _ (by rw [hW.ok.len]; exact h5)
    clear hv hrow hn hA hq hW hTL
    go_enter Try.func7, Try.ntmps7
    have hb := Below.refl w.heap.size w
    go_wp2_with fail
    refine (HFE.out _ hb).mono ?_
    rintro e w1 ⟨A1, c1, rfl, hq1, hR1, hbn⟩
    replace hb := hb.trans (hbn.mono hb.size)
    clear hbn
    go_wp2_with fail
    refine (HG.out _ _ _ hR1).mono ?_
    rintro e w2 ⟨T2, k2, rfl, hk2, hT2, hbn⟩
    replace hR1 := hR1.next hbn
    replace hb := hb.trans (hbn.mono hb.size)
    clear hbn
    clear hR1
    go_wp2_with fail
    refine (HVA.out _ hb).mono ?_
    rintro e w3 ⟨rfl, rfl⟩
    go_wp2_with fail
    refine (HT.out _ hb).mono ?_
    rintro e w4 ⟨T4, k4, rfl, hk4, hT4, hbn⟩
    replace hT2 := hT2.next hbn
    replace hb := hb.trans (hbn.mono hb.size)
    clear hbn
    go_wp2_with fail
    refine (same_any T2 T4 q q k2 k4 _ _ _ _ w4 HTL.out HTL.out (by omega) HTR.out hT2 hT4).mono ?_
    rintro e w5 ⟨rfl, m5, rfl⟩
    replace hT2 := hT2.keep (w' := w4.drewN m5) fun _ _ => rfl
    replace hT4 := hT4.keep (w' := w4.drewN m5) fun _ _ => rfl
    replace hb := below_drewN hb m5
    replace hT2 := hT2.more (B' := (w4.drewN m5).heap.size) (Nat.le_refl _)
    replace hT4 := hT4.more (B' := (w4.drewN m5).heap.size) (Nat.le_refl _)
    generalize w4.drewN m5 = w5 at *
    simp only [decide_true]
    clear hT2 hT4
    go_wp2_with fail
    refine (awake_any _).mono ?_
    rintro e w6 ⟨rfl, hbn⟩
    replace hb := hb.trans (hbn.mono hb.size)
    clear hbn
    go_wp2
    go_ret
    exact ⟨rfl, hb⟩
end Go.Proofs.Ytilnbiaabhdfgaa
