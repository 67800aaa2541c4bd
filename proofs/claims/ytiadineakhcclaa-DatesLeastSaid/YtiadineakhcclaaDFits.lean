/-
  dates: fits.
-/
import Derived.Test.YtiadineakhcclaaDFitP
import Derived.BigQuiet
namespace Go.Proofs.Ytiadineakhcclaa
open Go.RowKit
set_option linter.unusedVariables false
set_option linter.unusedSimpArgs false

set_option maxRecDepth 100000 in
set_option maxHeartbeats 1600000 in
theorem fits_any (A : Option Addr) (n c S : Nat) (L : List J4) (w : World) (hn : L.length = n) (hL : JobsOk L) (hS : S < 256) (hA : JobsA w w.heap.size A L) :
    Calls Try.prog 84 #[.slice A n c, .int .i64 (S : Nat)] w fun e w' => e = .returned (.bool (fitB L S)) ∧ Below w.heap.size w w' := by
  have h8 : n ≤ 8 := by rw [← hn]; exact hL.le
  have h1 : 1 ≤ n := by rw [← hn]; exact hL.pos
  have HD := hide (byDue_any A n c L w hn hL hA)
  have HA := hide hA
  have HL := hide hL
  have HN := hide hn
  have hS62 : S < 2 ^ 62 := Nat.lt_trans hS (by decide)
  clear hA hL hn
  go_enter Try.func84, Try.ntmps84
  go_wp2_with (go_at_call 89; refine (HD.out).mono ?_; rintro e w1 ⟨s, X, c', h1, rfl, h2, h3, h4⟩; have H1 := hide h1; have H3 := hide h3; have H4 := hide h4; clear h1 h3 h4)
  go_loopw [5, 11] (fun v5 v11 wr => ∃ k : Nat, k ≤ n ∧ v11 = .int .i64 k ∧ v5 = .int .i64 (nowF L S s k) ∧ Hid (FitS L S s k) ∧ Below w1.heap.size w1 wr) (fun _ v11 _ => n - (intOf v11).toNat)
  case atStart => exact ⟨0, Nat.zero_le _, rfl, rfl, hide (fun a ha => by omega), Below.refl _ _⟩
  case round =>
    obtain ⟨k, hk, rfl, rfl, HF, hb⟩ := hrel
    have HB := hide hb
    by_cases hlt : k < n
    · have hkn : (k : Int) < (n : Int) := by omega
      have HLow : ∀ a, a < n → s a < n := fun a ha => by
        obtain ⟨m, hm, e⟩ := H1.out.low a ha
        rw [e]; exact hm
      have hbd := nowF_bd (S := S) HL.out (s := s) k (fun a ha => by rw [HN.out]; exact HLow a (by omega))
      have hjb := HL.out.at_ (s k) (by rw [HN.out]; exact HLow k hlt)
      have hsk : s k < n := HLow k hlt
      have HS := hide (show nowF L S s (k + 1) = if S.testBit (s k) then nowF L S s k + (L.getD (s k) j0).t else nowF L S s k from rfl)
      obtain ⟨bx, ox, x1, rfl, hbx, hcx, hxx⟩ := (H3.out.next hb).at_ (k := k) (by simp [up]; omega)
      have e1 : x1 = (s k : Nat) := by
        have := hxx.out
        rw [up_getD] at this
        rw [← this]; congr 1; rw [List.getD_eq_getElem?_getD]; simp [hlt]
      obtain ⟨q, o, t1, r1, d1, u1, rfl, hq, ha0, ha1, ha2, ha3, hx1⟩ := ((HA.out.next H4.out).next hb).at_ (k := s k) (by rw [HN.out]; exact hsk)
      rw [hx1.out] at hjb HS
      have hjb0 : 1 ≤ t1 ∧ t1 ≤ 20 ∧ 0 ≤ d1 ∧ d1 ≤ 200 := ⟨hjb.1, hjb.2.1, hjb.2.2.2.2.1, hjb.2.2.2.2.2.1⟩
      have HX := hide hx1.out
      have HK := hide (show ∃ i, i = s k from ⟨_, rfl⟩)
      obtain ⟨g, hg⟩ : ∃ g, g = s k := ⟨_, rfl⟩
      obtain ⟨N0, hN0⟩ : ∃ N0, N0 = nowF L S s k := ⟨_, rfl⟩
      rw [← hg] at hsk HS e1 ha0 ha2
      rw [← hN0] at hbd HS ⊢
      have hkk : k ≤ 8 := by omega
      have hgn : (g : Int) < (n : Int) := by omega
      have hS0 := shr_test0 S g hS62
      subst e1
      have HG := hide hg
      have HN0 := hide hN0
      clear hb hxx ha1 ha3 hx1 hg hN0 hjb HLow
      cases hbt : S.testBit g with
      | false =>
        rw [hbt] at hS0 HS
        have HT := hide hbt
        clear hbt ha0 ha2
        go_wp2
        go_roundw
        case rel =>
          refine ⟨k + 1, by omega, by go_num, by rw [HS.out]; simp, hide (fun a ha hb => ?_), HB.out⟩
          rcases Nat.lt_or_ge a k with h | h
          · exact HF.out a h hb
          · obtain rfl : a = k := by omega
            rw [← HG.out, HT.out] at hb; cases hb
        case measure => simp [intOf] <;> omega
      | true =>
        rw [hbt] at hS0 HS
        have HT := hide hbt
        clear hbt
        have HS1 : Hid (nowF L S s (k + 1) = N0 + t1) := hide (by rw [HS.out]; simp)
        have hnt : 0 ≤ N0 + t1 ∧ N0 + t1 ≤ 180 := by omega
        by_cases hgt : d1 < N0 + t1
        · have HGT := hide hgt
          go_wp2
          go_ret
          refine ⟨?_, H4.out.trans (HB.out.mono H4.out.size)⟩
          have hf : fitB L S = false := by
            rcases Bool.eq_false_or_eq_true (fitB L S) with h | h
            · have h2 := (fitS_fitB (HN.out.symm ▸ H1.out)).2 h k (by rw [HN.out]; exact hlt) (by rw [← HG.out]; exact HT.out)
              rw [HS1.out, HX.out] at h2
              exact absurd h2 (by show ¬ (N0 + t1 ≤ d1); have := HGT.out; omega)
            · exact h
          rw [hf]; rfl
        · have HGT := hide hgt
          go_wp2
          go_roundw
          case rel =>
            refine ⟨k + 1, by omega, by go_num, by rw [HS1.out], hide (fun a ha hb => ?_), HB.out⟩
            rcases Nat.lt_or_ge a k with h | h
            · exact HF.out a h hb
            · obtain rfl : a = k := by omega
              rw [HS1.out, HX.out]
              show N0 + t1 ≤ d1
              have := HGT.out; omega
          case measure => simp [intOf] <;> omega
    · obtain rfl : n = k := by omega
      clear hb
      go_wp2
      go_ret
      refine ⟨?_, H4.out.trans (HB.out.mono H4.out.size)⟩
      have := (fitS_fitB (S := S) (HN.out.symm ▸ H1.out)).1 (HN.out.symm ▸ HF.out)
      rw [this]; rfl
end Go.Proofs.Ytiadineakhcclaa
