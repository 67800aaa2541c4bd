/-
  dates: the reference's Fits.
-/
import Derived.Test.YtiadineakhcclaaDFitQ
import Derived.BigQuiet
namespace Go.Proofs.Ytiadineakhcclaa
open Go.RowKit
set_option linter.unusedVariables false
set_option linter.unusedSimpArgs false

set_option maxRecDepth 100000 in
set_option maxHeartbeats 1600000 in
theorem rfits_any (A : Option Addr) (n c S : Nat) (L : List J4) (w : World) (hn : L.length = n) (hL : JobsOk L) (hS : S < 256) (hA : JobsA w w.heap.size A L) :
    Calls Try.prog 75 #[.slice A n c, .int .i64 (S : Nat)] w fun e w' => e = .returned (.bool (fitB L S)) ∧ Below w.heap.size w w' := by
  have h8 : n ≤ 8 := by rw [← hn]; exact hL.le
  have HA := hide hA
  have HL := hide hL
  have HN := hide hn
  have HR0 := hide (RF.zero (L := L) hS)
  clear hA hL hn
  go_enter Try.func75, Try.ntmps75
  go_wp2
  go_loopw [1, 5, 11] (fun v1 v5 v11 wr => ∃ (k T : Nat) (now : Int), k ≤ n ∧ v11 = .int .i64 k ∧ v1 = .int .i64 (T : Nat) ∧ v5 = .int .i64 now ∧ Hid (RF L S k T now) ∧ Below w.heap.size w wr) (fun _ _ v _ => n - (intOf v).toNat)
  case atStart => exact ⟨0, S, 0, Nat.zero_le _, rfl, rfl, rfl, HR0, Below.refl _ _⟩
  case round =>
    obtain ⟨k, T, now, hk, rfl, rfl, rfl, HR, hb⟩ := hrel
    have HB := hide hb
    obtain ⟨w1, rfl⟩ : ∃ w1 : World, w1 = wr := ⟨_, rfl⟩
    by_cases hlt : k < n
    · have hkn : (k : Int) < (n : Int) := by omega
      have hT8 := HR.out.lt
      have hT62 : T < 2 ^ 62 := Nat.lt_trans hT8 (by decide)
      have hbd := HR.out.bd HL.out
      have hk8 : k ≤ 8 := by omega
      clear hb
      go_wp2
      go_loopw [6, 15] (fun v6 v15 wr => ∃ j : Nat, j ≤ n ∧ v15 = .int .i64 j ∧ v6 = .int .i64 (leF L T j) ∧ Below w.heap.size w wr) (fun _ v _ => n - (intOf v).toNat)
      case atStart => exact ⟨0, Nat.zero_le _, rfl, rfl, HB.out⟩
      case round =>
        obtain ⟨j, hj, rfl, rfl, hb2⟩ := hrel
        have HB2 := hide hb2
        obtain ⟨w2, rfl⟩ : ∃ w2 : World, w2 = wr := ⟨_, rfl⟩
        by_cases hjl : j < n
        · have hjn : (j : Int) < (n : Int) := by omega
          have hj8 : j ≤ 8 := by omega
          obtain ⟨q, o, t1, r1, d1, u1, rfl, hq, ha0, ha1, ha2, ha3, hx1⟩ := (HA.out.next hb2).at_ (k := j) (by rw [HN.out]; exact hjl)
          have HST := hide (show leF L T (j + 1) = if T.testBit j = true ∧ (leF L T j < 0 ∨ (L.getD j j0).d < (L.getD (leF L T j).toNat j0).d) then (j : Int) else leF L T j from rfl)
          have HBW : Hid (∀ o q, Below w.heap.size w ((w2.alloc o).drewN q)) := fun o q => below_drewN (hb2.alloc hb2.size _) q
          have hS1 := shr_test T j hT62
          rw [hx1.out] at HST
          cases hbt : T.testBit j with
          | false =>
            rw [hbt] at hS1 HST
            have HV : Hid (leF L T j = leF L T (j + 1)) := hide (by rw [HST.out]; simp)
            clear hbt hb2 hx1 HST
            go_wp2
            go_quiet (fail)
            go_wp2
            go_roundw
            case rel => exact ⟨j + 1, by omega, by go_num, by rw [HV.out], HBW.out _ _⟩
            case measure => simp [intOf] <;> omega
          | true =>
            rw [hbt] at hS1 HST
            rcases leF_spec L T j with ⟨h1, h2⟩ | ⟨a, h1, h2, h3, h4⟩
            · have HV : Hid ((j : Int) = leF L T (j + 1)) := hide (by rw [HST.out, h1]; simp)
              rw [h1]
              clear hbt hb2 hx1 HST h1 h2
              go_wp2
              go_quiet (fail)
              go_wp2
              go_roundw
              case rel => exact ⟨j + 1, by omega, by go_num, by rw [HV.out], HBW.out _ _⟩
              case measure => simp [intOf] <;> omega
            · obtain ⟨q', o', t2, r2, d2, u2, e, hq2, hc0, hc1, hc2, hc3, hx2⟩ := (HA.out.next hb2).at_ (k := a) (by rw [HN.out]; omega)
              injection e with e; injection e with e1 e2
              subst e1; subst e2
              rw [h1, Int.toNat_natCast, hx2.out] at HST
              rw [h1]
              have han : (a : Int) < (n : Int) := by omega
              have ha0' : ¬ (a : Int) < 0 := by omega
              by_cases hdd : d1 < d2
              · have HV : Hid ((j : Int) = leF L T (j + 1)) := hide (by rw [HST.out, if_pos ⟨rfl, .inr hdd⟩])
                clear hbt hb2 hx1 hx2 HST h1 h3 h4
                go_wp2
                go_quiet (fail)
                go_wp2
                go_roundw
                case rel => exact ⟨j + 1, by omega, by go_num, by rw [HV.out], HBW.out _ _⟩
                case measure => simp [intOf] <;> omega
              · have HV : Hid ((a : Int) = leF L T (j + 1)) := hide (by
                  rw [HST.out, if_neg]
                  rintro ⟨_, h | h⟩
                  · omega
                  · exact hdd h)
                clear hbt hb2 hx1 hx2 HST h1 h3 h4
                go_wp2
                go_quiet (fail)
                go_wp2
                go_roundw
                case rel => exact ⟨j + 1, by omega, by go_num, by rw [HV.out], HBW.out _ _⟩
                case measure => simp [intOf] <;> omega
        · obtain rfl : n = j := by omega
          rcases leF_spec L T n with ⟨h1, h2⟩ | ⟨a, h1, h2, h3, h4⟩
          · rw [h1]
            have HY : Hid (fitB L S = true) := HR.out.yes (fun i hi => h2 i (by rw [← HN.out]; exact hi))
            clear h1 h2 hb2
            go_wp2
            go_ret
            refine ⟨?_, HB2.out⟩
            rw [HY.out]; rfl
          · obtain ⟨q, o, t1, r1, d1, u1, rfl, hq, ha0, ha1, ha2, ha3, hx1⟩ := (HA.out.next hb2).at_ (k := a) (by rw [HN.out]; exact h2)
            have hjb := HL.out.at_ a (by rw [HN.out]; exact h2)
            rw [hx1.out] at hjb
            have hjb0 : 1 ≤ t1 ∧ t1 ≤ 20 ∧ 0 ≤ d1 ∧ d1 ≤ 200 := ⟨hjb.1, hjb.2.1, hjb.2.2.2.2.1, hjb.2.2.2.2.2.1⟩
            have han : (a : Int) < (n : Int) := by omega
            have ha0' : ¬ (a : Int) < 0 := by omega
            have hle : ∀ i, i < L.length → T.testBit i = true → leK (due L) a i := fun i hi => h4 i (by rw [← HN.out]; exact hi)
            have hsh : bits .andNot .i64 (T : Int) (wrap64 (2 ^ a)) = ((sdiff T (2 ^ a) : Nat) : Int) := by
              rw [shl_one a (by omega), bandNot_nat _ _ hT62 (Nat.pow_lt_pow_right (by decide) (by omega))]
            have HNO : Hid (¬ now + t1 ≤ d1 → fitB L S = false) := fun h => HR.out.no (a := a) (by rw [HN.out]; exact h2) h3 hle (by rw [hx1.out]; exact h)
            have HYS : Hid (now + t1 ≤ d1 → RF L S (k + 1) (sdiff T (2 ^ a)) (now + t1)) := fun h => by
              have := HR.out.next (a := a) (by rw [HN.out]; exact h2) h3 hle (by rw [hx1.out]; exact h) (by omega)
              rw [hx1.out] at this; exact this
            rw [h1]
            clear h1 h2 h3 h4 hb2 hx1 hjb hle
            by_cases hd : d1 < now + t1
            · have HF : Hid (fitB L S = false) := HNO.out (by omega)
              go_wp2
              go_ret
              refine ⟨?_, HB2.out⟩
              rw [HF.out]; rfl
            · have HF : Hid (RF L S (k + 1) (sdiff T (2 ^ a)) (now + t1)) := HYS.out (by omega)
              go_wp2
              go_roundw
              case rel => exact ⟨k + 1, _, _, by omega, by go_num, rfl, rfl, HF, HB2.out⟩
              case measure => simp [intOf] <;> omega
    · obtain rfl : n = k := by omega
      have HY : Hid (fitB L S = true) := (HN.out.symm ▸ HR.out : RF L S L.length T now).end_
      clear hb
      go_wp2
      go_ret
      refine ⟨?_, HB.out⟩
      rw [HY.out]; rfl
end Go.Proofs.Ytiadineakhcclaa
