/-
  The walk of SwapObjects.
-/
import Derived.Test.YtilnbiaabhdfgaaRefObjs
import Derived.Test.YtilnbiaabhdfgaaLawSwapCore
namespace Go.Proofs.Ytilnbiaabhdfgaa
open Go.RowKit
set_option linter.unusedVariables false
set_option linter.unusedSimpArgs false

set_option maxRecDepth 100000 in
set_option maxHeartbeats 3200000 in
theorem swapObjects_any (A : Option Addr) (n c : Nat) (L : List (List Int)) (X : Option Addr) (m cm : Nat) (l : List Int) (w : World) (hn : L.length = n) (hlen : n ≤ 9223372036854775807) (hrow : ∀ l ∈ L, l.length ≤ 9223372036854775807) (hA : RowsA w w.heap.size A L)
    (hm : l.length = m) (hmc : m ≤ cm) (hlm : m ≤ 9223372036854775807) (hX : IntsA w w.heap.size X l) :
    Calls Try.prog 12 #[.slice A n c, .slice X m cm] w fun e w' => e = .returned (.bool true) ∧ Below w.heap.size w w' := by
  obtain ⟨q, hq⟩ : ∃ q, (fewL L).length = q := ⟨_, rfl⟩
  obtain ⟨q2, hq2⟩ : ∃ q2, (l.take 7).length = q2 := ⟨_, rfl⟩
  have HFE := hide (few_in (c := c) hn hlen hrow hq hA)
  have HLI := hide (list_in hm hmc hlm hq2 hX)
  have HFI := hide (fine_in (c := c) (cm := cm) hn hlen hrow hA hm hlm hX)
  cases hf : fineB L l
  · rw [hf] at HFI
    have HON := hide (fewObjects_no hq hq2 hf)
    clear hf hrow hn hA hq hq2 hm hX
    go_enter Try.func12, Try.ntmps12
    have hb := Below.refl w.heap.size w
    go_wp2_with fail
    refine (HFE.out _ hb).mono ?_
    rintro e w1 ⟨A1, c1, rfl, hq1, hR1, hbn⟩
    replace hb := hb.trans (hbn.mono hb.size)
    clear hbn
    go_wp2_with fail
    refine (HLI.out _ hb).mono ?_
    rintro e w2 ⟨X2, c2, rfl, hq2, hI2, hbn⟩
    replace hR1 := hR1.next hbn
    replace hb := hb.trans (hbn.mono hb.size)
    clear hbn
    go_wp2_with fail
    refine (HON.out _ _ _ _ _ hR1 hI2).mono ?_
    rintro e w3 ⟨rfl, hbn⟩
    replace hR1 := hR1.next hbn
    replace hI2 := hI2.next hbn
    replace hb := hb.trans (hbn.mono hb.size)
    clear hbn
    clear hR1 hI2
    go_wp2_with fail
    refine (HFI.out _ hb).mono ?_
    rintro e w4 ⟨rfl, rfl⟩
    go_wp2_with fail
    refine (awake_any _).mono ?_
    rintro e w5 ⟨rfl, hbn⟩
    replace hb := hb.trans (hbn.mono hb.size)
    clear hbn
    go_wp2
    go_ret
    exact ⟨rfl, hb⟩
  · rw [hf] at HFI
    obtain ⟨hv, hol⟩ := fine_parts.1 hf
    obtain ⟨he1, he2⟩ := fine_same hf
    rw [he1] at hq HFE
    rw [he2] at hq2 HLI
    rw [hn] at hol hq
    subst hq
    rw [hm] at hq2
    obtain ⟨W, hW⟩ : ∃ W, NatsOf L n W := ⟨_, nats_of hv hn⟩
    obtain ⟨hul, ho⟩ := ord_of hol
    obtain ⟨o, hoo⟩ : ∃ o, o = toN l := ⟨_, rfl⟩
    rw [← hoo] at hul ho
    have hmn : m = n := by rw [← hm, ← hul, up_length, ho.len]
    subst hmn
    subst hq2
    subst hul
    have h5 := hW.ok.le
    have HA : Hid (RowsA w w.heap.size A (upp W)) := by rw [hW.eq]; exact hA
    have HOO := hide (okObjects hW ho)
    have HRO : Hid (∀ w', Below w.heap.size w w' → Calls Try.prog 44 #[.slice A m c, .slice X m cm] w' (ObjRes (objectsN W m o) w')) := fun w' hw' => refObjects_any A X m c cm W o w' hW.ok (HA.out.next hw') ho (hX.next hw')
    have HE : Hid (∀ (w : World) (e : Ending) (w' : World), ObjRes (objectsN W m o) w e w' → e = .returned (.tuple #[.int .i64 ((objectsN W m o).getD 0 : Nat), .int .i64 (if (objectsN W m o).isSome then 0 else 4)]) ∧ Below w.heap.size w w') := fun _ _ _ h => h
    generalize ((objectsN W m o).getD 0 : Nat) = r at HE
    generalize (if (objectsN W m o).isSome then (0 : Int) else 4) = x at HE
    clear hf hrow hn hA hm hX hv hol he1 he2 hW hoo ho
    go_enter Try.func12, Try.ntmps12
    have hb := Below.refl w.heap.size w
    go_wp2_with fail
    refine (HFE.out _ hb).mono ?_
    rintro e w1 ⟨A1, c1, rfl, hq1, hR1, hbn⟩
    replace hb := hb.trans (hbn.mono hb.size)
    clear hbn
    go_wp2_with fail
    refine (HLI.out _ hb).mono ?_
    rintro e w2 ⟨X2, c2, rfl, hq2, hI2, hbn⟩
    replace hR1 := hR1.next hbn
    replace hb := hb.trans (hbn.mono hb.size)
    clear hbn
    go_wp2_with fail
    refine (HOO.out _ _ _ _ _ hR1 hI2).mono ?_
    intro e w3 hfr
    obtain ⟨rfl, hbn⟩ := HE.out _ _ _ hfr
    clear hfr
    replace hR1 := hR1.next hbn
    replace hI2 := hI2.next hbn
    replace hb := hb.trans (hbn.mono hb.size)
    clear hbn
    clear hR1 hI2
    go_wp2_with fail
    refine (HFI.out _ hb).mono ?_
    rintro e w4 ⟨rfl, rfl⟩
    go_wp2_with fail
    refine (HRO.out _ hb).mono ?_
    intro e w5 hfr
    obtain ⟨rfl, hbn⟩ := HE.out _ _ _ hfr
    clear hfr
    replace hb := hb.trans (hbn.mono hb.size)
    clear hbn
    go_wp2_with fail
    refine (awake_any _).mono ?_
    rintro e w6 ⟨rfl, hbn⟩
    replace hb := hb.trans (hbn.mono hb.size)
    clear hbn
    go_wp2
    go_ret
    exact ⟨rfl, hb⟩
end Go.Proofs.Ytilnbiaabhdfgaa
