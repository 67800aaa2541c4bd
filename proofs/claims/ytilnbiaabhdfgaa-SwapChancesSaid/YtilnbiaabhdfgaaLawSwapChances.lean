/-
  The walk of SwapChances.
-/
import Derived.Test.YtilnbiaabhdfgaaLawSwapGiven
namespace Go.Proofs.Ytilnbiaabhdfgaa
open Go.RowKit
set_option linter.unusedVariables false
set_option linter.unusedSimpArgs false

set_option maxRecDepth 100000 in
set_option maxHeartbeats 3200000 in
theorem swapChances_any (A : Option Addr) (n c : Nat) (L : List (List Int)) (X : Option Addr) (m cm : Nat) (l : List Int) (w : World) (hn : L.length = n) (hlen : n ≤ 9223372036854775807) (hrow : ∀ l ∈ L, l.length ≤ 9223372036854775807) (hA : RowsA w w.heap.size A L)
    (hm : l.length = m) (hmc : m ≤ cm) (hlm : m ≤ 9223372036854775807) (hX : IntsA w w.heap.size X l) :
    Calls Try.prog 8 #[.slice A n c, .slice X m cm] w fun e w' => e = .returned (.bool true) ∧ Below w.heap.size w w' := by
  obtain ⟨q, hq⟩ : ∃ q, (fewL L).length = q := ⟨_, rfl⟩
  obtain ⟨q2, hq2⟩ : ∃ q2, (l.take 7).length = q2 := ⟨_, rfl⟩
  have HFE := hide (few_in (c := c) hn hlen hrow hq hA)
  have HLI := hide (list_in hm hmc hlm hq2 hX)
  have HVA := hide (valid_in (c := c) hn hlen hrow hA)
  have HOR := hide (order_in (cm := cm) (k := n) hm hlm hlen hX)
  cases hv : validB L
  · rw [hv] at HVA
    have HCH := hide (fewChoose_no hq hq2 (show fineB L l = false by rw [fineB, hv]; rfl))
    have HCA := hide (fewChances_no hq hv)
    clear hv hrow hn hA hq hq2 hm hX
    go_enter Try.func8, Try.ntmps8
    have hb := Below.refl w.heap.size w
    go_wp2_with fail
    refine (HFE.out _ hb).mono ?_
    rintro e w1 ⟨A1, c1, rfl, hq1, hR1, hbn⟩
    replace hb := hb.trans (hbn.mono hb.size)
    clear hbn
    go_wp2_with fail
    refine (HLI.out _ hb).mono ?_
    rintro e w2 ⟨X2, c2, rfl, hq2, hI2, hbn⟩
    replace hR1 := hR1.next hbn
    replace hb := hb.trans (hbn.mono hb.size)
    clear hbn
    go_wp2_with fail
    refine (HCH.out _ _ _ _ _ hR1 hI2).mono ?_
    rintro e w3 ⟨rfl, hbn⟩
    replace hR1 := hR1.next hbn
    replace hI2 := hI2.next hbn
    replace hb := hb.trans (hbn.mono hb.size)
    clear hbn
    clear hR1 hI2
    go_wp2_with fail
    refine (HFE.out _ hb).mono ?_
    rintro e w4 ⟨A1, c1, rfl, hq1, hR1, hbn⟩
    replace hb := hb.trans (hbn.mono hb.size)
    clear hbn
    go_wp2_with fail
    refine (HCA.out _ _ _ hR1).mono ?_
    rintro e w5 ⟨rfl, hbn⟩
    replace hR1 := hR1.next hbn
    replace hb := hb.trans (hbn.mono hb.size)
    clear hbn
    clear hR1
    go_wp2_with fail
    refine (HVA.out _ hb).mono ?_
    rintro e w6 ⟨rfl, rfl⟩
    go_wp2_with fail
    refine (awake_any _).mono ?_
    rintro e w7 ⟨rfl, hbn⟩
    replace hb := hb.trans (hbn.mono hb.size)
    clear hbn
    go_wp2
    go_ret
    exact ⟨rfl, hb⟩
  · rw [hv] at HVA
    have hqn : q = n := by rw [← hq, few_same hv, hn]
    subst hqn
    obtain ⟨W, hW⟩ : ∃ W, NatsOf L q W := ⟨_, nats_of hv hn⟩
    rw [few_same hv] at HFE
    have HCA := hide (okChances hW)
    have h5 := hW.ok.le
    have hTL : (upp (chancesN W)).length = q := by rw [upp_length, chancesN, tallyN_len, hW.ok.len]
    have HT : Hid (∀ w', Below w.heap.size w w' → Calls Try.prog 35 #[.slice A q c] w' (TableRes q (chancesN W) w')) := fun w' hw' => by
      have h := refChances_any A q c W w' hW.ok (by rw [hW.eq]; exact hA.next hw')
      rw [chancesN, hW.ok.len]; exact h
    have HTL := hide hTL
    have HTR : Hid (∀ l ∈ upp (chancesN W), l.length ≤ 9223372036854775807) := tally_rows _ _ (by rw [hW.ok.len]; exact h5)
    have HA : Hid (RowsA w w.heap.size A (upp W)) := by rw [hW.eq]; exact hA
    cases ho : ordB l q
    · rw [ho] at HOR
      have HCH := hide (fewChoose_no (L := L) (by rw [few_same hv, hn]) hq2 (show fineB L l = false by rw [fineB, hn, ho, Bool.and_false]))
      rw [few_same hv] at HCH
      clear hv hrow hn hA hq hW hTL ho hm hX hq2
      go_enter Try.func8, Try.ntmps8
      have hb := Below.refl w.heap.size w
      go_wp2_with fail
      refine (HFE.out _ hb).mono ?_
      rintro e w1 ⟨A1, c1, rfl, hq1, hR1, hbn⟩
      replace hb := hb.trans (hbn.mono hb.size)
      clear hbn
      go_wp2_with fail
      refine (HLI.out _ hb).mono ?_
      rintro e w2 ⟨X2, c2, rfl, hq2, hI2, hbn⟩
      replace hR1 := hR1.next hbn
      replace hb := hb.trans (hbn.mono hb.size)
      clear hbn
      go_wp2_with fail
      refine (HCH.out _ _ _ _ _ hR1 hI2).mono ?_
      rintro e w3 ⟨rfl, hbn⟩
      replace hR1 := hR1.next hbn
      replace hI2 := hI2.next hbn
      replace hb := hb.trans (hbn.mono hb.size)
      clear hbn
      clear hR1 hI2
      go_wp2_with fail
      refine (HFE.out _ hb).mono ?_
      rintro e w4 ⟨A1, c1, rfl, hq1, hR1, hbn⟩
      replace hb := hb.trans (hbn.mono hb.size)
      clear hbn
      go_wp2_with fail
      refine (HCA.out _ _ _ hR1).mono ?_
      rintro e w5 ⟨T2, k2, rfl, hk2, hT2, hbn⟩
      replace hR1 := hR1.next hbn
      replace hb := hb.trans (hbn.mono hb.size)
      clear hbn
      clear hR1
      go_wp2_with fail
      refine (HVA.out _ hb).mono ?_
      rintro e w6 ⟨rfl, rfl⟩
      go_wp2_with fail
      refine (HT.out _ hb).mono ?_
      rintro e w7 ⟨T4, k4, rfl, hk4, hT4, hbn⟩
      replace hT2 := hT2.next hbn
      replace hb := hb.trans (hbn.mono hb.size)
      clear hbn
      go_wp2_with fail
      refine (same_any T2 T4 q q k2 k4 _ _ _ _ w7 HTL.out HTL.out (by omega) HTR.out hT2 hT4).mono ?_
      rintro e w8 ⟨rfl, m8, rfl⟩
      replace hT2 := hT2.keep (w' := w7.drewN m8) fun _ _ => rfl
      replace hT4 := hT4.keep (w' := w7.drewN m8) fun _ _ => rfl
      replace hb := below_drewN hb m8
      replace hT2 := hT2.more (B' := (w7.drewN m8).heap.size) (Nat.le_refl _)
      replace hT4 := hT4.more (B' := (w7.drewN m8).heap.size) (Nat.le_refl _)
      generalize w7.drewN m8 = w8 at *
      simp only [decide_true]
      clear hT2 hT4
      go_wp2_with fail
      refine (awake_any _).mono ?_
      rintro e w9 ⟨rfl, hbn⟩
      replace hb := hb.trans (hbn.mono hb.size)
      clear hbn
      go_wp2_with fail
      refine (HOR.out _ hb).mono ?_
      rintro e w10 ⟨rfl, rfl⟩
      go_wp2
      go_ret
      exact ⟨rfl, hb⟩
    · rw [ho] at HOR
      obtain ⟨hul, hd⟩ := ord_of ho
      obtain ⟨d, hdd⟩ : ∃ d, d = toN l := ⟨_, rfl⟩
      rw [← hdd] at hul hd
      have hmn : m = q := by rw [← hm, ← hul, up_length, hd.len]
      subst hmn
      have ht7 := take_same (by omega) ho
      rw [ht7, hm] at hq2
      subst hq2
      rw [ht7] at HLI
      subst hul
      have HCH := hide (okChoose hW hd)
      have HRC : Hid (∀ w', Below w.heap.size w w' → Calls Try.prog 37 #[.slice A m c, .slice X m cm] w' (OneRow m (chooseN W d) w')) := fun w' hw' =>
        refChoose_any A X m c cm w'.heap.size w'.heap.size W d w' (by omega) hW.ok.len hW.ok.rows (HA.out.next hw') hd (hX.next hw')
      have HCL : Hid ((up (chooseN W d)).length = m) := by show _ = _; rw [up_length]; exact (chooseN_ord hW.ok hd).len
      clear hv hrow hn hA hq hW hTL ho hm hX hdd ht7 hd
      go_enter Try.func8, Try.ntmps8
      have hb := Below.refl w.heap.size w
      go_wp2_with fail
      refine (HFE.out _ hb).mono ?_
      rintro e w1 ⟨A1, c1, rfl, hq1, hR1, hbn⟩
      replace hb := hb.trans (hbn.mono hb.size)
      clear hbn
      go_wp2_with fail
      refine (HLI.out _ hb).mono ?_
      rintro e w2 ⟨X2, c2, rfl, hq2, hI2, hbn⟩
      replace hR1 := hR1.next hbn
      replace hb := hb.trans (hbn.mono hb.size)
      clear hbn
      go_wp2_with fail
      refine (HCH.out _ _ _ _ _ hR1 hI2).mono ?_
      rintro e w3 ⟨O3, k3, rfl, hO, hbn⟩
      replace hR1 := hR1.next hbn
      replace hI2 := hI2.next hbn
      replace hb := hb.trans (hbn.mono hb.size)
      clear hbn
      clear hR1 hI2
      go_wp2_with fail
      refine (HFE.out _ hb).mono ?_
      rintro e w4 ⟨A1, c1, rfl, hq1, hR1, hbn⟩
      replace hO := hO.next hbn
      replace hb := hb.trans (hbn.mono hb.size)
      clear hbn
      go_wp2_with fail
      refine (HCA.out _ _ _ hR1).mono ?_
      rintro e w5 ⟨T2, k2, rfl, hk2, hT2, hbn⟩
      replace hO := hO.next hbn
      replace hR1 := hR1.next hbn
      replace hb := hb.trans (hbn.mono hb.size)
      clear hbn
      clear hR1
      go_wp2_with fail
      refine (HVA.out _ hb).mono ?_
      rintro e w6 ⟨rfl, rfl⟩
      go_wp2_with fail
      refine (HT.out _ hb).mono ?_
      rintro e w7 ⟨T4, k4, rfl, hk4, hT4, hbn⟩
      replace hO := hO.next hbn
      replace hT2 := hT2.next hbn
      replace hb := hb.trans (hbn.mono hb.size)
      clear hbn
      go_wp2_with fail
      refine (same_any T2 T4 m m k2 k4 _ _ _ _ w7 HTL.out HTL.out (by omega) HTR.out hT2 hT4).mono ?_
      rintro e w8 ⟨rfl, m8, rfl⟩
      replace hO := hO.keep (w' := w7.drewN m8) fun _ _ => rfl
      replace hT2 := hT2.keep (w' := w7.drewN m8) fun _ _ => rfl
      replace hT4 := hT4.keep (w' := w7.drewN m8) fun _ _ => rfl
      replace hb := below_drewN hb m8
      replace hO := hO.more (B' := (w7.drewN m8).heap.size) (Nat.le_refl _)
      replace hT2 := hT2.more (B' := (w7.drewN m8).heap.size) (Nat.le_refl _)
      replace hT4 := hT4.more (B' := (w7.drewN m8).heap.size) (Nat.le_refl _)
      generalize w7.drewN m8 = w8 at *
      simp only [decide_true]
      clear hT2 hT4
      go_wp2_with fail
      refine (awake_any _).mono ?_
      rintro e w9 ⟨rfl, hbn⟩
      replace hO := hO.next hbn
      replace hb := hb.trans (hbn.mono hb.size)
      clear hbn
      go_wp2_with fail
      refine (HOR.out _ hb).mono ?_
      rintro e w10 ⟨rfl, rfl⟩
      go_wp2_with fail
      refine (HRC.out _ hb).mono ?_
      rintro e w11 ⟨P4, k9, rfl, hP, hbn, _⟩
      replace hO := hO.next hbn
      replace hb := hb.trans (hbn.mono hb.size)
      clear hbn
      go_wp2_with fail
      refine (equal_any O3 P4 m m k3 k9 _ _ _ _ w11 HCL.out HCL.out (by omega) hO hP).mono ?_
      rintro e w12 ⟨rfl, m12, rfl⟩
      replace hO := hO.keep (w' := w11.drewN m12) fun _ _ => rfl
      replace hP := hP.keep (w' := w11.drewN m12) fun _ _ => rfl
      replace hb := below_drewN hb m12
      replace hO := hO.more (B' := (w11.drewN m12).heap.size) (Nat.le_refl _)
      replace hP := hP.more (B' := (w11.drewN m12).heap.size) (Nat.le_refl _)
      generalize w11.drewN m12 = w12 at *
      simp only [decide_true]
      go_wp2
      go_ret
      exact ⟨rfl, hb⟩
end Go.Proofs.Ytilnbiaabhdfgaa
