/-
  The reference's size, Approvals, IsCommittee, Score, Committee, Blocks and Group.
-/
import Derived.Test.YtejijddfepgnkaaGroup
namespace Go.Proofs.Ytejijddfepgnkaa
open Go.RowKit
set_option linter.unusedVariables false
set_option linter.unusedSimpArgs false

set_option maxHeartbeats 800000 in
theorem size9_any (s : Nat) (hs : s < 512) (w : World) : Calls Try.prog 77 #[.int .i64 (s : Nat)] w fun e w' => e = .returned (.int .i64 (cn s : Nat)) ∧ w = w' := by
  go_enter Try.func77, Try.ntmps77
  go_wp2
  go_loop [0, 3] (fun z m => ∃ t k : Nat, t < 512 ∧ z = .int .i64 (t : Nat) ∧ m = .int .i64 (k : Nat) ∧ k + cn t = cn s ∧ cn s ≤ 9) (fun z _ => (intOf z).toNat)
  case atStart => exact ⟨s, 0, hs, rfl, rfl, by omega, cn_le s⟩
  case round =>
    obtain ⟨t, k, ht, rfl, rfl, hk, h5⟩ := hrel
    by_cases h0 : 0 < t
    · obtain ⟨h1, h2⟩ := cn_low ⟨t, ht⟩ h0
      simp only at h1 h2
      have hb2 : bits .and .i64 (t : Int) ((t : Int) - 1) = ((t &&& (t - 1) : Nat) : Int) := by rw [show (t : Int) - 1 = ((t - 1 : Nat) : Int) from by omega, band_nat t (t - 1) (by omega) (by omega)]
      have H1 := hide h1
      have H2 := hide h2
      have HB2 := hide hb2
      clear h1 h2 hb2
      go_wp2
      go_round
      case rel => exact ⟨t &&& (t - 1), k + 1, by have := H2.out; omega, by first | rfl | rw [HB2.out], by go_num, by have := H1.out; omega, h5⟩
      case measure => first | (rw [HB2.out]; simp [intOf]; have := H2.out; omega) | (simp [intOf]; have := H2.out; omega)
    · obtain rfl : t = 0 := by omega
      have hc0 : cn 0 = 0 := cn_zero
      obtain rfl : k = cn s := by omega
      go_wp2
      go_ret
      exact ⟨rfl, rfl⟩

set_option maxRecDepth 100000 in
set_option maxHeartbeats 1600000 in
theorem refApp_any (c k : Int) (A : Option Addr) (n cp B : Nat) (l : List Int) (w : World) (hn : l.length = n) (hlen : n ≤ 9223372036854775807) (hA : IntsA w B A l) :
    Calls Try.prog 52 #[.int .i64 c, .int .i64 k, .slice A n cp] w fun e w' => e = .returned (.bool (appB c k l)) ∧ w = w' := by
  by_cases hall : 1 ≤ c ∧ c ≤ 8 ∧ 1 ≤ k ∧ k ≤ c ∧ 1 ≤ n ∧ n ≤ 9
  · obtain ⟨h1, h2, h3, h4, h5, h6⟩ := hall
    obtain ⟨C, rfl⟩ : ∃ C : Nat, c = C := ⟨c.toNat, by omega⟩
    have hsh := shl_nat C (by omega)
    obtain ⟨N, hN⟩ : ∃ N : Nat, 2 ^ C = N := ⟨_, rfl⟩
    have hN2 : (2 : Int) ^ C = (N : Int) := by rw [← hN]; push_cast; rfl
    rw [hN] at hsh
    have HSH := hide hsh
    have HR : Hid (appB (C : Int) k l = true ↔ ∀ i, i < n → 0 ≤ l.getD i 0 ∧ l.getD i 0 < (N : Int)) := by
      show _ ↔ _
      rw [appB_iff]
      constructor
      · intro h i hi
        have := h.2 _ (getD_mem (l := l) (j := i) (d := 0) (by rw [hn]; exact hi))
        rwa [Int.toNat_natCast, hN2] at this
      · intro h
        refine ⟨⟨h1, h2, h3, h4, by rw [hn]; exact h5, by rw [hn]; exact h6⟩, fun s hs => ?_⟩
        obtain ⟨i, hi, rfl⟩ := List.getElem_of_mem hs
        have hg : l.getD i 0 = l[i] := by rw [List.getD_eq_getElem?_getD, List.getElem?_eq_getElem hi]; rfl
        have := h i (by rw [← hn]; exact hi)
        rw [hg] at this
        rwa [Int.toNat_natCast, hN2]
    obtain ⟨r, hr⟩ : ∃ r, appB (C : Int) k l = r := ⟨_, rfl⟩
    rw [hr] at HR ⊢
    have HN := hide hn
    clear hsh hN hN2 hr hn
    go_enter Try.func52, Try.ntmps52
    go_wp2
    go_loop [36] (fun i => ∃ j : Nat, j ≤ n ∧ i = .int .i64 j ∧ Hid (∀ i, i < j → 0 ≤ l.getD i 0 ∧ l.getD i 0 < (N : Int))) (fun i => n - (intOf i).toNat)
    case atStart => exact ⟨0, Nat.zero_le _, rfl, fun i hi => absurd hi (by omega)⟩
    case round =>
      obtain ⟨j, hj, rfl, hall⟩ := hrel
      by_cases hlt : j < n
      · obtain ⟨b, o, x, rfl, hb, hc, hx⟩ := hA.at_ (k := j) (by rw [HN.out]; exact hlt)
        by_cases g0 : x < 0
        · have d0 : decide (x < 0) = true := decide_eq_true g0
          have hr : r = false := by
            cases r with
            | false => rfl
            | true => have := (HR.out.1 rfl j hlt).1; rw [hx.out] at this; omega
          subst hr
          clear g0
          go_wp2
          go_ret
          exact ⟨rfl, rfl⟩
        · have d0 : decide (x < 0) = false := decide_eq_false g0
          by_cases g1 : (N : Int) ≤ x
          · have d1 : decide (wrap64 ((2 : Int) ^ C) ≤ x) = true := by rw [HSH.out]; exact decide_eq_true g1
            have hr : r = false := by
              cases r with
              | false => rfl
              | true => have := (HR.out.1 rfl j hlt).2; rw [hx.out] at this; omega
            subst hr
            clear g0 g1
            go_wp2
            go_ret
            exact ⟨rfl, rfl⟩
          · have d1 : decide (wrap64 ((2 : Int) ^ C) ≤ x) = false := by rw [HSH.out]; exact decide_eq_false g1
            have HG0 := hide g0
            have HG1 := hide g1
            clear g0 g1
            go_wp2
            go_round
            case rel => exact ⟨j + 1, by omega, by go_num, fun i hi => by
              rcases (by omega : i < j ∨ i = j) with h | rfl
              · exact hall.out i h
              · have := HG0.out; have := HG1.out; rw [hx.out]; omega⟩
            case measure => simp [intOf]; omega
      · obtain rfl : n = j := by omega
        have hr : r = true := HR.out.2 hall.out
        subst hr
        clear hall
        go_wp2
        go_ret
        exact ⟨rfl, rfl⟩
  · have hr : appB c k l = false := by
      cases h : appB c k l with
      | false => rfl
      | true => exact absurd (by have := (appB_iff.1 h).1; rw [hn] at this; exact this) hall
    have HR := hide hr
    rw [HR.out]
    clear hr hA hn
    by_cases h1 : 1 ≤ c
    · by_cases h2 : c ≤ 8
      · by_cases h3 : 1 ≤ k
        · by_cases h4 : k ≤ c
          · by_cases h5 : 1 ≤ n
            · by_cases h6 : n ≤ 9
              · exact absurd ⟨h1, h2, h3, h4, h5, h6⟩ hall
              · clear hall
                go_enter Try.func52, Try.ntmps52
                go_wp2
                go_ret
                exact ⟨rfl, rfl⟩
            · clear hall
              go_enter Try.func52, Try.ntmps52
              go_wp2
              go_ret
              exact ⟨rfl, rfl⟩
          · clear hall
            go_enter Try.func52, Try.ntmps52
            go_wp2
            go_ret
            exact ⟨rfl, rfl⟩
        · clear hall
          go_enter Try.func52, Try.ntmps52
          go_wp2
          go_ret
          exact ⟨rfl, rfl⟩
      · clear hall
        go_enter Try.func52, Try.ntmps52
        go_wp2
        go_ret
        exact ⟨rfl, rfl⟩
    · clear hall
      go_enter Try.func52, Try.ntmps52
      go_wp2
      go_ret
      exact ⟨rfl, rfl⟩

set_option maxRecDepth 100000 in
set_option maxHeartbeats 1600000 in
theorem refIsCom_any (C K : Nat) (x : Int) (w : World) (hC : C ≤ 8) :
    Calls Try.prog 54 #[.int .i64 C, .int .i64 K, .int .i64 x] w fun e w' => e = .returned (.bool (isComB C K x)) ∧ w = w' := by
  have hsh := shl_nat C (by omega)
  have hpow : 2 ^ C ≤ 256 := Nat.le_trans (Nat.pow_le_pow_right (by decide) hC) (by decide)
  obtain ⟨N, hN⟩ : ∃ N : Nat, 2 ^ C = N := ⟨_, rfl⟩
  have hN2 : (2 : Int) ^ C = (N : Int) := by rw [← hN]; push_cast; rfl
  rw [hN] at hsh hpow
  have HSH := hide hsh
  have HB : Hid (isComB C K x = decide (0 ≤ x ∧ x < (N : Int) ∧ cn x.toNat = K)) := by show _ = _; rw [isComB, hN2]
  rw [HB.out]
  clear hN hN2 hsh HB
  by_cases h0 : 0 ≤ x
  · obtain ⟨X, rfl⟩ : ∃ X : Nat, x = X := ⟨x.toNat, by omega⟩
    rw [Int.toNat_natCast]
    by_cases h1 : X < N
    · have d1 : decide ((X : Int) < wrap64 ((2 : Int) ^ C)) = true := by rw [HSH.out]; simp; omega
      have HS := hide (size9_any X (by omega) w)
      obtain ⟨m, hm⟩ : ∃ m, cn X = m := ⟨_, rfl⟩
      rw [hm] at HS ⊢
      have hr : decide (0 ≤ (X : Int) ∧ (X : Int) < (N : Int) ∧ m = K) = decide (m = K) := by
        rw [Bool.eq_iff_iff, decide_eq_true_eq, decide_eq_true_eq]; omega
      rw [hr]
      clear hm hr
      by_cases h2 : m = K
      · obtain rfl : K = m := h2.symm
        clear h2
        rw [decide_eq_true rfl]
        go_enter Try.func54, Try.ntmps54
        go_wp2_with (go_at_call 77; refine (HS.out).mono ?_; rintro e w' ⟨rfl, rfl⟩)
        go_ret
        exact ⟨rfl, rfl⟩
      · rw [decide_eq_false h2]
        have hne0 : ¬ (m : Int) = (K : Int) := by omega
        have hne1 : ((m : Int) == (K : Int)) = false := by simp [hne0]
        have hne2 : decide ((m : Int) = (K : Int)) = false := by simp [hne0]
        have hne3 : decide (m = K) = false := by simp [h2]
        have hne4 : (m == K) = false := by simp [h2]
        go_enter Try.func54, Try.ntmps54
        go_wp2_with (go_at_call 77; refine (HS.out).mono ?_; rintro e w' ⟨rfl, rfl⟩)
        go_ret
        exact ⟨rfl, rfl⟩
    · have d1 : decide ((X : Int) < wrap64 ((2 : Int) ^ C)) = false := by rw [HSH.out]; simp; omega
      rw [decide_eq_false (fun h => h1 (by omega))]
      go_enter Try.func54, Try.ntmps54
      go_wp2
      go_ret
      exact ⟨rfl, rfl⟩
  · rw [decide_eq_false (fun h => h0 h.1)]
    go_enter Try.func54, Try.ntmps54
    go_wp2
    go_ret
    exact ⟨rfl, rfl⟩
end Go.Proofs.Ytejijddfepgnkaa
