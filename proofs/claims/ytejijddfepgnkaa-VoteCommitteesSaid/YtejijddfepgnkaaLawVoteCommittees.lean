/-
  The walk of VoteCommittees.
-/
import Derived.Test.YtejijddfepgnkaaRefScore
import Derived.Test.YtejijddfepgnkaaVoteBase
namespace Go.Proofs.Ytejijddfepgnkaa
open Go.RowKit
set_option linter.unusedVariables false
set_option linter.unusedSimpArgs false

set_option maxRecDepth 100000 in
set_option maxHeartbeats 3200000 in
theorem voteCommittees_any (c k : Int) (X : Option Addr) (m cm : Nat) (l : List Int) (x : Int) (w : World) (hc : -9223372036854775808 ≤ c ∧ c ≤ 9223372036854775807) (hk : -9223372036854775808 ≤ k ∧ k ≤ 9223372036854775807) (hm : l.length = m) (hmc : m ≤ cm) (hlm : m ≤ 9223372036854775807) (hX : IntsA w w.heap.size X l) (hx : -9223372036854775808 ≤ x ∧ x ≤ 9223372036854775807) :
    Calls Try.prog 17 #[.int .i64 c, .int .i64 k, .slice X m cm, .int .i64 x] w fun e w' => e = .returned (.bool true) ∧ Below w.heap.size w w' := by
  obtain ⟨q2, hq2⟩ : ∃ q2, (l.take 11).length = q2 := ⟨_, rfl⟩
  have HLI := hide (vlist_in hm hmc hlm hq2 hX)
  have hq211 : q2 ≤ 11 := by rw [← hq2, List.length_take]; omega
  have HAP : Hid (∀ w', Below w.heap.size w w' → Calls Try.prog 52 #[.int .i64 c, .int .i64 k, .slice X m cm] w' fun e w'' => e = .returned (.bool (appB c k l)) ∧ w' = w'') := fun w' hw' => refApp_any c k X m cm w.heap.size l w' hm hlm (hX.below hw')
  cases hv : appB c k l
  · rw [hv] at HAP
    have hv2 : appB c k (l.take 11) = false := by rw [appB_take]; exact hv
    have HCN : Hid (∀ X' cx w1, IntsA w1 w1.heap.size X' (l.take 11) → Calls Try.prog 50 #[.int .i64 c, .int .i64 k, .slice X' q2 cx] w1 fun e w' => e = .returned (.tuple #[.int .i64 0, .int .i64 2]) ∧ Below w1.heap.size w1 w') := fun X' cx w1 h => Committee_no c k X' q2 cx (l.take 11) w1 hq2 (by omega) h hv2
    have HGN : Hid (∀ X' cx w1, IntsA w1 w1.heap.size X' (l.take 11) → Calls Try.prog 51 #[.int .i64 c, .int .i64 k, .slice X' q2 cx, .int .i64 x] w1 fun e w' => e = .returned (.tuple #[.int .i64 0, .int .i64 2]) ∧ Below w1.heap.size w1 w') := fun X' cx w1 h => Group_no c k x X' q2 cx (l.take 11) w1 hq2 (by omega) h hv2
    clear hv hv2 hm hX hq2
    go_enter Try.func17, Try.ntmps17
    have hb := Below.refl w.heap.size w
    go_wp2_with fail
    refine (HLI.out _ hb).mono ?_
    rintro e w1 ⟨A1, c1, rfl, hc1, hI1, hbn⟩
    replace hb := hb.trans (hbn.mono hb.size)
    clear hbn
    go_wp2_with fail
    refine (HCN.out _ _ _ hI1).mono ?_
    rintro e w2 ⟨rfl, hbn⟩
    replace hI1 := hI1.next hbn
    replace hb := hb.trans (hbn.mono hb.size)
    clear hbn
    clear hI1
    go_wp2_with fail
    refine (HLI.out _ hb).mono ?_
    rintro e w3 ⟨A3, c3, rfl, hc3, hI3, hbn⟩
    replace hb := hb.trans (hbn.mono hb.size)
    clear hbn
    go_wp2_with fail
    refine (HGN.out _ _ _ hI3).mono ?_
    rintro e w4 ⟨rfl, hbn⟩
    replace hI3 := hI3.next hbn
    replace hb := hb.trans (hbn.mono hb.size)
    clear hbn
    clear hI3
    go_wp2_with fail
    refine (HAP.out _ hb).mono ?_
    rintro e w5 ⟨rfl, rfl⟩
    go_wp2_with fail
    refine (awake_any _).mono ?_
    rintro e w6 ⟨rfl, hbn⟩
    replace hb := hb.trans (hbn.mono hb.size)
    clear hbn
    go_wp2
    go_ret
    exact ⟨rfl, hb⟩
  · rw [hv] at HAP
    obtain ⟨C, K, S, rfl, rfl, hS, hok⟩ := app_ok hv
    subst hS
    rw [app_same hv] at hq2 HLI
    have hqm : m = q2 := by rw [← hm, ← hq2]
    subst hqm
    have hvS : appB C K (up S) = true := hv
    rw [hm] at hok
    have hc8 := hok.c8
    have HCY : Hid (∀ X' cx w1, IntsA w1 w1.heap.size X' (up S) → Calls Try.prog 50 #[.int .i64 C, .int .i64 K, .slice X' m cx] w1 fun e w' => e = .returned (.tuple #[.int .i64 (comN S C K), .int .i64 0]) ∧ Below w1.heap.size w1 w') := fun X' cx w1 h => Committee_yes C K m cx S X' w1 hok h hvS
    have HRC : Hid (∀ w', Below w.heap.size w w' → Calls Try.prog 53 #[.int .i64 C, .int .i64 K, .slice X m cm] w' fun e w'' => e = .returned (.int .i64 (comN S C K)) ∧ w' = w'') := fun w' hw' => refCommittee_any C K m cm w.heap.size S X w' hok (hX.below hw')
    have HIC : Hid (∀ w', Calls Try.prog 54 #[.int .i64 C, .int .i64 K, .int .i64 x] w' fun e w'' => e = .returned (.bool (isComB C K x)) ∧ w' = w'') := fun w' => refIsCom_any C K x w' hc8
    have hg0 := fun X' cx w1 (h : IntsA w1 w1.heap.size X' (up S)) => Group_yes C K m cx x S X' w1 hok h hvS
    cases hic : isComB C K x with
    | false =>
      rw [hic] at HIC
      have HGY : Hid (∀ X' cx w1, IntsA w1 w1.heap.size X' (up S) → Calls Try.prog 51 #[.int .i64 C, .int .i64 K, .slice X' m cx, .int .i64 x] w1 fun e w' => e = .returned (.tuple #[.int .i64 0, .int .i64 2]) ∧ Below w1.heap.size w1 w') := fun X' cx w1 h => by
        have := hg0 X' cx w1 h
        rw [grpR, hic] at this
        exact this
      generalize comN S C K = cm9 at *
      clear hv hvS hm hX hq2 hok hg0 hic
      go_enter Try.func17, Try.ntmps17
      have hb := Below.refl w.heap.size w
      go_wp2_with fail
      refine (HLI.out _ hb).mono ?_
      rintro e w1 ⟨A1, c1, rfl, hc1, hI1, hbn⟩
      replace hb := hb.trans (hbn.mono hb.size)
      clear hbn
      go_wp2_with fail
      refine (HCY.out _ _ _ hI1).mono ?_
      rintro e w2 ⟨rfl, hbn⟩
      replace hI1 := hI1.next hbn
      replace hb := hb.trans (hbn.mono hb.size)
      clear hbn
      clear hI1
      go_wp2_with fail
      refine (HLI.out _ hb).mono ?_
      rintro e w3 ⟨A3, c3, rfl, hc3, hI3, hbn⟩
      replace hb := hb.trans (hbn.mono hb.size)
      clear hbn
      go_wp2_with fail
      refine (HGY.out _ _ _ hI3).mono ?_
      rintro e w4 ⟨rfl, hbn⟩
      replace hI3 := hI3.next hbn
      replace hb := hb.trans (hbn.mono hb.size)
      clear hbn
      clear hI3
      go_wp2_with fail
      refine (HAP.out _ hb).mono ?_
      rintro e w5 ⟨rfl, rfl⟩
      go_wp2_with fail
      refine (HRC.out _ hb).mono ?_
      rintro e w6 ⟨rfl, rfl⟩
      go_wp2_with fail
      refine (awake_any _).mono ?_
      rintro e w7 ⟨rfl, hbn⟩
      replace hb := hb.trans (hbn.mono hb.size)
      clear hbn
      go_wp2_with fail
      refine (HIC.out _).mono ?_
      rintro e w8 ⟨rfl, rfl⟩
      go_wp2
      go_ret
      exact ⟨rfl, hb⟩
    | true =>
      rw [hic] at HIC
      have h := hic
      rw [isComB, decide_eq_true_eq] at h
      obtain ⟨X0, rfl⟩ : ∃ X0 : Nat, x = X0 := ⟨x.toNat, by omega⟩
      have hX0 : X0 < 256 := by
        have h2 := h.2.1
        have e : ((2 ^ C : Nat) : Int) = (2 : Int) ^ C := by push_cast; rfl
        have := hok.pow
        omega
      obtain ⟨b0, f0, hbf⟩ : ∃ b0 f0 : Int, (if grpN S C K X0 = 0 then Value.tuple #[.int .i64 0, .int .i64 4] else Value.tuple #[.int .i64 (grpN S C K X0 : Nat), .int .i64 0]) = .tuple #[.int .i64 b0, .int .i64 f0] := by
        split
        · exact ⟨_, _, rfl⟩
        · exact ⟨_, _, rfl⟩
      have HGY : Hid (∀ X' cx w1, IntsA w1 w1.heap.size X' (up S) → Calls Try.prog 51 #[.int .i64 C, .int .i64 K, .slice X' m cx, .int .i64 (X0 : Nat)] w1 fun e w' => e = .returned (.tuple #[.int .i64 b0, .int .i64 f0]) ∧ Below w1.heap.size w1 w') := fun X' cx w1 h => by
        have := hg0 X' cx w1 h
        rw [grpR, hic, if_pos rfl, Int.toNat_natCast, hbf] at this
        exact this
      have HRG : Hid (∀ w', Below w.heap.size w w' → Calls Try.prog 55 #[.int .i64 C, .int .i64 K, .slice X m cm, .int .i64 (X0 : Nat)] w' fun e w'' => e = .returned (.tuple #[.int .i64 b0, .int .i64 f0]) ∧ w' = w'') := fun w' hw' => by
        have := refGroup_any C K m cm X0 w.heap.size S X w' hok hX0 (hX.below hw')
        rw [hbf] at this
        exact this
      generalize comN S C K = cm9 at *
      clear hv hvS hm hX hq2 hok hg0 hic h hbf
      go_enter Try.func17, Try.ntmps17
      have hb := Below.refl w.heap.size w
      go_wp2_with fail
      refine (HLI.out _ hb).mono ?_
      rintro e w1 ⟨A1, c1, rfl, hc1, hI1, hbn⟩
      replace hb := hb.trans (hbn.mono hb.size)
      clear hbn
      go_wp2_with fail
      refine (HCY.out _ _ _ hI1).mono ?_
      rintro e w2 ⟨rfl, hbn⟩
      replace hI1 := hI1.next hbn
      replace hb := hb.trans (hbn.mono hb.size)
      clear hbn
      clear hI1
      go_wp2_with fail
      refine (HLI.out _ hb).mono ?_
      rintro e w3 ⟨A3, c3, rfl, hc3, hI3, hbn⟩
      replace hb := hb.trans (hbn.mono hb.size)
      clear hbn
      go_wp2_with fail
      refine (HGY.out _ _ _ hI3).mono ?_
      rintro e w4 ⟨rfl, hbn⟩
      replace hI3 := hI3.next hbn
      replace hb := hb.trans (hbn.mono hb.size)
      clear hbn
      clear hI3
      go_wp2_with fail
      refine (HAP.out _ hb).mono ?_
      rintro e w5 ⟨rfl, rfl⟩
      go_wp2_with fail
      refine (HRC.out _ hb).mono ?_
      rintro e w6 ⟨rfl, rfl⟩
      go_wp2_with fail
      refine (awake_any _).mono ?_
      rintro e w7 ⟨rfl, hbn⟩
      replace hb := hb.trans (hbn.mono hb.size)
      clear hbn
      go_wp2_with fail
      refine (HIC.out _).mono ?_
      rintro e w8 ⟨rfl, rfl⟩
      go_wp2_with fail
      refine (HRG.out _ hb).mono ?_
      rintro e w9 ⟨rfl, rfl⟩
      go_wp2
      go_ret
      exact ⟨rfl, hb⟩
end Go.Proofs.Ytejijddfepgnkaa
