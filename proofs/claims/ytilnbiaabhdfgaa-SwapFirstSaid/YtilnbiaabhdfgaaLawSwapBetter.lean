/-
  The walk of SwapBetter.
-/
import Derived.Test.YtilnbiaabhdfgaaFine
import Derived.Test.YtilnbiaabhdfgaaRefBetter
namespace Go.Proofs.Ytilnbiaabhdfgaa
open Go.RowKit
set_option linter.unusedVariables false
set_option linter.unusedSimpArgs false

/-- What a search answers, its error as a number. -/
def FindE (r : Option (List Nat)) (k : Nat) (x : Int) (w : World) (e : Ending) (w' : World) : Prop :=
  ∃ O c, e = .returned (.tuple #[.slice O k c, .int .i64 x]) ∧ IntsA w' w'.heap.size O (up (r.getD [])) ∧ Below w.heap.size w w'
theorem find_e {r : Option (List Nat)} {k : Nat} {x : Int} {w w' : World} {e : Ending} (hk : lenO r = k) (hx : (if r.isSome then (0 : Int) else 4) = x) (h : FindRes r w e w') : FindE r k x w e w' := by
  subst hk; subst hx; exact h
theorem lenO_up (r : Option (List Nat)) : (up (r.getD [])).length = lenO r := by cases r <;> simp [lenO]

set_option maxRecDepth 100000 in
set_option maxHeartbeats 3200000 in
theorem swapBetter_any (A : Option Addr) (n c : Nat) (L : List (List Int)) (X : Option Addr) (m cm : Nat) (l : List Int) (w : World) (hn : L.length = n) (hlen : n ≤ 9223372036854775807) (hrow : ∀ l ∈ L, l.length ≤ 9223372036854775807) (hA : RowsA w w.heap.size A L)
    (hm : l.length = m) (hmc : m ≤ cm) (hlm : m ≤ 9223372036854775807) (hX : IntsA w w.heap.size X l) :
    Calls Try.prog 10 #[.slice A n c, .slice X m cm] w fun e w' => e = .returned (.bool true) ∧ Below w.heap.size w w' := by
  obtain ⟨q, hq⟩ : ∃ q, (fewL L).length = q := ⟨_, rfl⟩
  obtain ⟨q2, hq2⟩ : ∃ q2, (l.take 7).length = q2 := ⟨_, rfl⟩
  have HFE := hide (few_in (c := c) hn hlen hrow hq hA)
  have HLI := hide (list_in hm hmc hlm hq2 hX)
  have HFI := hide (fine_in (c := c) (cm := cm) hn hlen hrow hA hm hlm hX)
  cases hf : fineB L l
  · rw [hf] at HFI
    have HBE := hide (fewBetter_no hq hq2 hf)
    have HOR := hide (fewOrder_no hq hq2 hf)
    clear hf hrow hn hA hq hq2 hm hX
    go_enter Try.func10, Try.ntmps10
    have hb := Below.refl w.heap.size w
    go_wp2_with fail
    refine (HFE.out _ hb).mono ?_
    rintro e w1 ⟨A1, c1, rfl, hq1, hR1, hbn⟩
    replace hb := hb.trans (hbn.mono hb.size)
    clear hbn
    go_wp2_with fail
    refine (HLI.out _ hb).mono ?_
    rintro e w2 ⟨X2, c2, rfl, hq2, hI2, hbn⟩
    replace hR1 := hR1.next hbn
    replace hb := hb.trans (hbn.mono hb.size)
    clear hbn
    go_wp2_with fail
    refine (HBE.out _ _ _ _ _ hR1 hI2).mono ?_
    rintro e w3 ⟨rfl, hbn⟩
    replace hR1 := hR1.next hbn
    replace hI2 := hI2.next hbn
    replace hb := hb.trans (hbn.mono hb.size)
    clear hbn
    clear hR1 hI2
    go_wp2_with fail
    refine (HFE.out _ hb).mono ?_
    rintro e w4 ⟨A1, c1, rfl, hq1, hR1, hbn⟩
    replace hb := hb.trans (hbn.mono hb.size)
    clear hbn
    go_wp2_with fail
    refine (HLI.out _ hb).mono ?_
    rintro e w5 ⟨X2, c2, rfl, hq2, hI2, hbn⟩
    replace hR1 := hR1.next hbn
    replace hb := hb.trans (hbn.mono hb.size)
    clear hbn
    go_wp2_with fail
    refine (HOR.out _ _ _ _ _ hR1 hI2).mono ?_
    rintro e w6 ⟨rfl, hbn⟩
    replace hR1 := hR1.next hbn
    replace hI2 := hI2.next hbn
    replace hb := hb.trans (hbn.mono hb.size)
    clear hbn
    clear hR1 hI2
    go_wp2_with fail
    refine (HFI.out _ hb).mono ?_
    rintro e w7 ⟨rfl, rfl⟩
    go_wp2_with fail
    refine (awake_any _).mono ?_
    rintro e w8 ⟨rfl, hbn⟩
    replace hb := hb.trans (hbn.mono hb.size)
    clear hbn
    go_wp2
    go_ret
    exact ⟨rfl, hb⟩
  · rw [hf] at HFI
    obtain ⟨hv, hol⟩ := fine_parts.1 hf
    obtain ⟨he1, he2⟩ := fine_same hf
    rw [he1] at hq HFE
    rw [he2] at hq2 HLI
    rw [hn] at hol hq
    subst hq
    rw [hm] at hq2
    obtain ⟨W, hW⟩ : ∃ W, NatsOf L n W := ⟨_, nats_of hv hn⟩
    obtain ⟨hul, ho⟩ := ord_of hol
    obtain ⟨o, hoo⟩ : ∃ o, o = toN l := ⟨_, rfl⟩
    rw [← hoo] at hul ho
    have hmn : m = n := by rw [← hm, ← hul, up_length, ho.len]
    subst hmn
    subst hq2
    subst hul
    have h5 := hW.ok.le
    obtain ⟨rb, hrb⟩ : ∃ rb, betterN W m o = rb := ⟨_, rfl⟩
    obtain ⟨ro, hro⟩ : ∃ ro, orderN W m o = ro := ⟨_, rfl⟩
    obtain ⟨kb, hkb⟩ : ∃ kb, lenO rb = kb := ⟨_, rfl⟩
    obtain ⟨ko, hko⟩ : ∃ ko, lenO ro = ko := ⟨_, rfl⟩
    obtain ⟨xb, hxb⟩ : ∃ xb, (if rb.isSome then (0 : Int) else 4) = xb := ⟨_, rfl⟩
    obtain ⟨xo, hxo⟩ : ∃ xo, (if ro.isSome then (0 : Int) else 4) = xo := ⟨_, rfl⟩
    have hkb5 : kb ≤ 5 := by
      rw [← hkb]
      cases h : rb with
      | none => simp [lenO]
      | some a => rw [h] at hrb; have := (betterN_some hrb).1.len; simp [lenO]; omega
    have hko5 : ko ≤ 5 := by
      rw [← hko]
      cases h : ro with
      | none => simp [lenO]
      | some a => rw [h] at hro; have := (orderN_some hro).1.len; simp [lenO]; omega
    have HBE := hide (okBetter hW ho)
    have HOR := hide (okOrder hW ho)
    rw [hrb] at HBE
    rw [hro] at HOR
    have HA : Hid (RowsA w w.heap.size A (upp W)) := by rw [hW.eq]; exact hA
    have HRB : Hid (∀ w', Below w.heap.size w w' → Calls Try.prog 41 #[.slice A m c, .slice X m cm] w' (FindE rb kb xb w')) := fun w' hw' =>
      (refBetter_any A X m c cm W o w' hW.ok (HA.out.next hw') ho (hX.next hw')).mono fun e w'' h => find_e hkb hxb (by rw [hrb] at h; exact h)
    have HRO : Hid (∀ w', Below w.heap.size w w' → Calls Try.prog 42 #[.slice A m c, .slice X m cm] w' (FindE ro ko xo w')) := fun w' hw' =>
      (refOrder_any A X m c cm W o w' hW.ok (HA.out.next hw') ho (hX.next hw')).mono fun e w'' h => find_e hko hxo (by rw [hro] at h; exact h)
    have HLB : Hid ((up (rb.getD [])).length = kb) := by show _ = _; rw [lenO_up, hkb]
    have HLO : Hid ((up (ro.getD [])).length = ko) := by show _ = _; rw [lenO_up, hko]
    have HKB := hide hkb
    have HKO := hide hko
    have HXB := hide hxb
    have HXO := hide hxo
    clear hf hrow hn hA hm hX hv hol he1 he2 hW hoo ho hrb hro hkb hko hxb hxo
    go_enter Try.func10, Try.ntmps10
    have hb := Below.refl w.heap.size w
    go_wp2_with fail
    refine (HFE.out _ hb).mono ?_
    rintro e w1 ⟨A1, c1, rfl, hq1, hR1, hbn⟩
    replace hb := hb.trans (hbn.mono hb.size)
    clear hbn
    go_wp2_with fail
    refine (HLI.out _ hb).mono ?_
    rintro e w2 ⟨X2, c2, rfl, hq2, hI2, hbn⟩
    replace hR1 := hR1.next hbn
    replace hb := hb.trans (hbn.mono hb.size)
    clear hbn
    go_wp2_with fail
    refine (HBE.out _ _ _ _ _ hR1 hI2).mono ?_
    intro e w3 hfr
    obtain ⟨O3, k3, rfl, hO, hbn⟩ := find_e HKB.out HXB.out hfr
    clear hfr
    replace hR1 := hR1.next hbn
    replace hI2 := hI2.next hbn
    replace hb := hb.trans (hbn.mono hb.size)
    clear hbn
    clear hR1 hI2
    go_wp2_with fail
    refine (HFE.out _ hb).mono ?_
    rintro e w4 ⟨A1, c1, rfl, hq1, hR1, hbn⟩
    replace hO := hO.next hbn
    replace hb := hb.trans (hbn.mono hb.size)
    clear hbn
    go_wp2_with fail
    refine (HLI.out _ hb).mono ?_
    rintro e w5 ⟨X2, c2, rfl, hq2, hI2, hbn⟩
    replace hO := hO.next hbn
    replace hR1 := hR1.next hbn
    replace hb := hb.trans (hbn.mono hb.size)
    clear hbn
    go_wp2_with fail
    refine (HOR.out _ _ _ _ _ hR1 hI2).mono ?_
    intro e w6 hfr
    obtain ⟨P3, k4, rfl, hP, hbn⟩ := find_e HKO.out HXO.out hfr
    clear hfr
    replace hO := hO.next hbn
    replace hR1 := hR1.next hbn
    replace hI2 := hI2.next hbn
    replace hb := hb.trans (hbn.mono hb.size)
    clear hbn
    clear hR1 hI2
    go_wp2_with fail
    refine (HFI.out _ hb).mono ?_
    rintro e w7 ⟨rfl, rfl⟩
    go_wp2_with fail
    refine (HRB.out _ hb).mono ?_
    rintro e w8 ⟨O5, k5, rfl, hO5, hbn⟩
    replace hO := hO.next hbn
    replace hP := hP.next hbn
    replace hb := hb.trans (hbn.mono hb.size)
    clear hbn
    go_wp2_with fail
    refine (HRO.out _ hb).mono ?_
    rintro e w9 ⟨P5, k6, rfl, hP5, hbn⟩
    replace hO := hO.next hbn
    replace hP := hP.next hbn
    replace hO5 := hO5.next hbn
    replace hb := hb.trans (hbn.mono hb.size)
    clear hbn
    go_wp2_with fail
    refine (equal_any O3 O5 kb kb k3 k5 _ _ _ _ w9 HLB.out HLB.out (by omega) hO hO5).mono ?_
    rintro e w10 ⟨rfl, m10, rfl⟩
    replace hO := hO.keep (w' := w9.drewN m10) fun _ _ => rfl
    replace hP := hP.keep (w' := w9.drewN m10) fun _ _ => rfl
    replace hO5 := hO5.keep (w' := w9.drewN m10) fun _ _ => rfl
    replace hP5 := hP5.keep (w' := w9.drewN m10) fun _ _ => rfl
    replace hb := below_drewN hb m10
    replace hO := hO.more (B' := (w9.drewN m10).heap.size) (Nat.le_refl _)
    replace hP := hP.more (B' := (w9.drewN m10).heap.size) (Nat.le_refl _)
    replace hO5 := hO5.more (B' := (w9.drewN m10).heap.size) (Nat.le_refl _)
    replace hP5 := hP5.more (B' := (w9.drewN m10).heap.size) (Nat.le_refl _)
    generalize w9.drewN m10 = w10 at *
    simp only [decide_true]
    go_wp2_with fail
    refine (equal_any P3 P5 ko ko k4 k6 _ _ _ _ w10 HLO.out HLO.out (by omega) hP hP5).mono ?_
    rintro e w11 ⟨rfl, m11, rfl⟩
    replace hO := hO.keep (w' := w10.drewN m11) fun _ _ => rfl
    replace hP := hP.keep (w' := w10.drewN m11) fun _ _ => rfl
    replace hO5 := hO5.keep (w' := w10.drewN m11) fun _ _ => rfl
    replace hP5 := hP5.keep (w' := w10.drewN m11) fun _ _ => rfl
    replace hb := below_drewN hb m11
    replace hO := hO.more (B' := (w10.drewN m11).heap.size) (Nat.le_refl _)
    replace hP := hP.more (B' := (w10.drewN m11).heap.size) (Nat.le_refl _)
    replace hO5 := hO5.more (B' := (w10.drewN m11).heap.size) (Nat.le_refl _)
    replace hP5 := hP5.more (B' := (w10.drewN m11).heap.size) (Nat.le_refl _)
    generalize w10.drewN m11 = w11 at *
    simp only [decide_true]
    clear hO hO5 hP hP5
    go_wp2_with fail
    refine (awake_any _).mono ?_
    rintro e w12 ⟨rfl, hbn⟩
    replace hb := hb.trans (hbn.mono hb.size)
    clear hbn
    go_wp2
    go_ret
    exact ⟨rfl, hb⟩
end Go.Proofs.Ytilnbiaabhdfgaa
