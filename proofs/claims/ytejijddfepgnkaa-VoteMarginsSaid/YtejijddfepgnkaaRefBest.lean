/-
  The reference's size and Best.
-/
import Derived.Test.YtejijddfepgnkaaBestEq
import Derived.Test.YtejijddfepgnkaaRefMargin
namespace Go.Proofs.Ytejijddfepgnkaa
open Go.RowKit
set_option linter.unusedVariables false
set_option linter.unusedSimpArgs false

set_option maxHeartbeats 800000 in
theorem size_any (s : Nat) (hs : s < 32) (w : World) : Calls Try.prog 77 #[.int .i64 (s : Nat)] w fun e w' => e = .returned (.int .i64 (cnt5 s : Nat)) ∧ w = w' := by
  go_enter Try.func77, Try.ntmps77
  go_wp2
  go_loop [0, 3] (fun z m => ∃ t k : Nat, t < 32 ∧ z = .int .i64 (t : Nat) ∧ m = .int .i64 (k : Nat) ∧ k + cnt5 t = cnt5 s ∧ cnt5 s ≤ 5) (fun z _ => (intOf z).toNat)
  case atStart => exact ⟨s, 0, hs, rfl, rfl, by omega, by have := List.countP_le_length (p := fun i => s.testBit i) (l := List.range 5); simpa [cnt5] using this⟩
  case round =>
    obtain ⟨t, k, ht, rfl, rfl, hk, h5⟩ := hrel
    by_cases h0 : 0 < t
    · obtain ⟨h1, h2⟩ := cnt5_low ⟨t, ht⟩ h0
      simp only at h1 h2
      have hw : wrap64 ((t : Int) - 1) = ((t - 1 : Nat) : Int) := by rw [show (t : Int) - 1 = ((t - 1 : Nat) : Int) from by omega, wrapNat _ (by omega)]
      have hb : bits .and .i64 (t : Int) ((t - 1 : Nat) : Int) = ((t &&& (t - 1) : Nat) : Int) := band_nat t (t - 1) (by omega) (by omega)
      have hb2 : bits .and .i64 (t : Int) ((t : Int) - 1) = ((t &&& (t - 1) : Nat) : Int) := by rw [show (t : Int) - 1 = ((t - 1 : Nat) : Int) from by omega, hb]
      have H1 := hide h1
      have H2 := hide h2
      have HB2 := hide hb2
      clear h1 h2 hw hb hb2
      go_wp2
      go_round
      case rel => exact ⟨t &&& (t - 1), k + 1, by have := H2.out; omega, by first | rfl | rw [HB2.out], by go_num, by have := H1.out; omega, h5⟩
      case measure => first | (rw [HB2.out]; simp [intOf]; have := H2.out; omega) | (simp [intOf]; have := H2.out; omega)
    · obtain rfl : t = 0 := by omega
      have hc0 : cnt5 0 = 0 := by decide
      obtain rfl : k = cnt5 s := by omega
      go_wp2
      go_ret
      exact ⟨rfl, rfl⟩

set_option maxRecDepth 100000 in
set_option maxHeartbeats 3200000 in
theorem refBest_any (A : Option Addr) (v n c : Nat) (W : List (List Nat)) (w : World) (hW : BOk W v n) (hA : RowsA w w.heap.size A (upp W)) :
    Calls Try.prog 44 #[.slice A v c] w fun e w' => e = .returned (.int .i64 (bestN (margM W) n : Nat)) ∧ w = w' := by
  have hn5 := hW.nle
  have hn1 := hW.npos
  obtain ⟨b0, o0, A0, n', c0, rfl, hb0, hc0, hx0, hle0, hI0⟩ := hA.at_ (k := 0) (by rw [upp_length, hW.len]; exact hW.pos)
  rw [Nat.add_zero] at hc0
  obtain rfl : n = n' := by have := hx0.out; rw [upp_getD, up_length, (hW.rows 0 hW.pos).len] at this; exact this
  have hi0 : (0 : Int) < (v : Int) := by have := hW.pos; omega
  have HANTI := hide (marg_anti hW)
  have HRM : Hid (∀ a b, a < n → b < n → Calls Try.prog 76 #[.slice (some ⟨b0, o0, none⟩) v c, .int .i64 (a : Nat), .int .i64 (b : Nat)] w fun e w' => e = .returned (.int .i64 (margM W a b)) ∧ w = w') := fun a b ha hb => by
    rw [margM_eq hW ha hb]
    exact refMargin_any (some ⟨b0, o0, none⟩) v n c w.heap.size a b W w hW ha hb hA
  generalize margM W = M at *
  have hsh : wrap64 (2 ^ n) = ((2 ^ n : Nat) : Int) := shl_one n (by omega)
  have hpow : 2 ^ n ≤ 2 ^ 5 := Nat.pow_le_pow_right (by decide) hn5
  have hpos : 0 < 2 ^ n := Nat.two_pow_pos n
  obtain ⟨N, hN⟩ : ∃ N, 2 ^ n = N := ⟨_, rfl⟩
  have HN := hide hN
  have hshN : wrap64 ((2 : Int) ^ n) = (N : Int) := by rw [← hN]; exact hsh
  have HSHN := hide hshN
  have hsb : Hid (wrap64 (wrap64 ((2 : Int) ^ n) - 1) = ((2 ^ n - 1 : Nat) : Int)) := by
    show wrap64 (wrap64 ((2 : Int) ^ n) - 1) = ((2 ^ n - 1 : Nat) : Int)
    rw [hshN, ← hN, show ((2 ^ n : Nat) : Int) - 1 = ((2 ^ n - 1 : Nat) : Int) from by omega, wrapNat _ (by omega)]
  have HPOW : Hid (N ≤ 32) := by show N ≤ 32; omega
  clear hpow hpos hsh hN hshN hA hI0 hx0 hle0 hW
  go_enter Try.func44, Try.ntmps44
  go_wp2
  go_loop [4, 5] (fun b z => ∃ s t : Nat, 1 ≤ s ∧ s ≤ N ∧ z = .int .i64 (s : Nat) ∧ b = .int .i64 (t : Nat) ∧ Hid (BestAt M n s t)) (fun _ z => N - (intOf z).toNat)
  case atStart => exact ⟨1, 2 ^ n - 1, Nat.le_refl _, by have := HN.out; have := best_at_start (M := M) hn1; have := this.lt; have := this; omega, rfl, by rw [hsb.out], best_at_start hn1⟩
  case round =>
    obtain ⟨s, t, hs1, hsN, rfl, rfl, hat⟩ := hrel
    by_cases hlt : s < N
    · have dlt : decide ((s : Int) < wrap64 ((2 : Int) ^ n)) = true := by rw [HSHN.out]; simp; exact hlt
      have hs62 : s < 2 ^ 62 := by have := HPOW.out; omega
      go_wp2
      go_loop [6, 23] (fun p i => ∃ (a : Nat) (pl : Bool), a ≤ n ∧ i = .int .i64 a ∧ p = .bool pl ∧ Hid (pl = true ↔ ∀ a', a' < a → ∀ c, c < n → ClAt M s a' c)) (fun _ i => n - (intOf i).toNat)
      case atStart => exact ⟨0, true, Nat.zero_le _, rfl, rfl, ⟨fun _ a' ha' => absurd ha' (by omega), fun _ => rfl⟩⟩
      case round =>
        obtain ⟨a, pl, ha, rfl, rfl, hpl⟩ := hrel
        by_cases hlta : a < n
        · go_wp2
          go_loop [6, 27] (fun p i => ∃ (c : Nat) (pl : Bool), c ≤ n ∧ i = .int .i64 c ∧ p = .bool pl ∧ Hid (pl = true ↔ (∀ a', a' < a → ∀ c, c < n → ClAt M s a' c) ∧ ∀ c', c' < c → ClAt M s a c')) (fun _ i => n - (intOf i).toNat)
          case atStart => exact ⟨0, pl, Nat.zero_le _, rfl, rfl, ⟨fun h => ⟨hpl.out.1 h, fun c' hc' => absurd hc' (by omega)⟩, fun h => hpl.out.2 h.1⟩⟩
          case round =>
            clear hpl
            obtain ⟨c1, pl, hc, rfl, rfl, hpl⟩ := hrel
            by_cases hltc : c1 < n
            · have t1 := shr_test s a hs62
              have t2 := shr_test0 s c1 hs62
              have HM2 := hide (HRM.out a c1 hlta hltc)
              have hno : ClAt M s a c1 → (pl = true ↔ (∀ a', a' < a → ∀ c, c < n → ClAt M s a' c) ∧ ∀ c', c' < c1 + 1 → ClAt M s a c') := fun h => by
                rw [hpl.out]
                refine ⟨fun h9 => ⟨h9.1, fun c' hc' => ?_⟩, fun h9 => ⟨h9.1, fun c' hc' => h9.2 c' (by omega)⟩⟩
                rcases (by omega : c' < c1 ∨ c' = c1) with h8 | rfl
                · exact h9.2 c' h8
                · exact h
              have HNO := hide hno
              clear hno
              by_cases h1 : s.testBit a = true
              · by_cases h2 : s.testBit c1 = false
                · have e1 : (bits .and .i64 ((s : Int) / 2 ^ a) 1 == 1) = true := by rw [t1, h1]
                  have e2 : (bits .and .i64 ((s : Int) / 2 ^ c1) 1 == 0) = true := by rw [t2, h2]; rfl
                  by_cases h3 : M a c1 ≤ 0
                  · have HNN : Hid (¬ ((∀ a', a' < a → ∀ c, c < n → ClAt M s a' c) ∧ ∀ c', c' < c1 + 1 → ClAt M s a c')) := fun h9 => by
                      have := h9.2 c1 (by omega) h1 h3
                      rw [h2] at this; cases this
                    have e3 : decide (M a c1 ≤ 0) = true := decide_eq_true h3
                    generalize M a c1 = z at *
                    clear t1 t2 h1 h2 HNO hpl
                    go_wp2_with (go_at_call 76; refine (HM2.out).mono ?_; rintro e w' ⟨rfl, rfl⟩)
                    go_round
                    case rel => exact ⟨c1 + 1, false, by omega, by go_num, rfl, ⟨fun h => (by cases h), fun h => absurd h HNN.out⟩⟩
                    case measure => simp [intOf]; omega
                  · have HN1 := hide (HNO.out fun _ h9 => absurd h9 h3)
                    have e3 : decide (M a c1 ≤ 0) = false := decide_eq_false h3
                    generalize M a c1 = z at *
                    clear t1 t2 h1 h2 HNO hpl
                    go_wp2_with (go_at_call 76; refine (HM2.out).mono ?_; rintro e w' ⟨rfl, rfl⟩)
                    go_round
                    case rel => exact ⟨c1 + 1, pl, by omega, by go_num, rfl, HN1.out⟩
                    case measure => simp [intOf]; omega
                · have h2' : s.testBit c1 = true := by simpa using h2
                  have HN1 := hide (HNO.out fun _ _ => h2')
                  have e1 : (bits .and .i64 ((s : Int) / 2 ^ a) 1 == 1) = true := by rw [t1, h1]
                  have e2 : (bits .and .i64 ((s : Int) / 2 ^ c1) 1 == 0) = false := by rw [t2, h2']; rfl
                  clear t1 t2 h1 h2 h2' HNO hpl
                  go_wp2_with (go_at_call 76; refine (HM2.out).mono ?_; rintro e w' ⟨rfl, rfl⟩)
                  go_round
                  case rel => exact ⟨c1 + 1, pl, by omega, by go_num, rfl, HN1.out⟩
                  case measure => simp [intOf]; omega
              · have h1' : s.testBit a = false := by simpa using h1
                have HN1 := hide (HNO.out fun h9 => absurd h9 h1)
                have e1 : (bits .and .i64 ((s : Int) / 2 ^ a) 1 == 1) = false := by rw [t1, h1']
                clear t1 t2 h1 h1' HNO hpl
                go_wp2_with (go_at_call 76; refine (HM2.out).mono ?_; rintro e w' ⟨rfl, rfl⟩)
                go_round
                case rel => exact ⟨c1 + 1, pl, by omega, by go_num, rfl, HN1.out⟩
                case measure => simp [intOf]; omega
            · obtain rfl : n = c1 := by omega
              go_wp2
              go_round
              case rel => exact ⟨a + 1, pl, by omega, by go_num, rfl, by
                show pl = true ↔ _
                rw [hpl.out]
                refine ⟨fun h9 a' ha' => ?_, fun h9 => ⟨fun a' ha' => h9 a' (by omega), h9 a (by omega)⟩⟩
                rcases (by omega : a' < a ∨ a' = a) with h8 | rfl
                · exact h9.1 a' h8
                · exact h9.2⟩
              case measure => simp [intOf]; omega
        · obtain rfl : n = a := by omega
          have hs32 : s < 32 := by have := HPOW.out; omega
          have ht32 : t < 32 := by have := hat.out.lt; have := HPOW.out; have := HN.out; omega
          have HSS := hide (size_any s hs32 w)
          have HST := hide (size_any t ht32 w)
          cases pl with
          | true =>
            have hd : Dom M n s := hpl.out.1 rfl
            by_cases hcc : cnt5 s < cnt5 t
            · have HAT := hide (best_at_yes HANTI.out hn5 hat.out hs1 (by rw [HN.out]; exact hlt) hd hcc)
              have d1 : decide ((cnt5 s : Int) < (cnt5 t : Int)) = true := by simp; exact hcc
              generalize cnt5 s = x1 at *
              generalize cnt5 t = x2 at *
              clear hd hat hpl
              go_wp2_with (go_at_call 77; (first | (with_reducible refine (HSS.out).mono ?_) | (with_reducible refine (HST.out).mono ?_)); rintro e w' ⟨rfl, rfl⟩)
              go_round
              case rel => exact ⟨s + 1, s, by omega, by omega, by go_num, rfl, HAT.out⟩
              case measure => simp [intOf]; omega
            · have HAT := hide (best_at_no HANTI.out hn1 hn5 hat.out (by rw [HN.out]; exact hlt) (fun h => hcc h.2))
              have d1 : decide ((cnt5 s : Int) < (cnt5 t : Int)) = false := by simp; omega
              generalize cnt5 s = x1 at *
              generalize cnt5 t = x2 at *
              clear hd hat hpl
              go_wp2_with (go_at_call 77; (first | (with_reducible refine (HSS.out).mono ?_) | (with_reducible refine (HST.out).mono ?_)); rintro e w' ⟨rfl, rfl⟩)
              go_round
              case rel => exact ⟨s + 1, t, by omega, by omega, by go_num, rfl, HAT.out⟩
              case measure => simp [intOf]; omega
          | false =>
            have hd : ¬ Dom M n s := fun h => by have := hpl.out.2 h; cases this
            have HAT := hide (best_at_no HANTI.out hn1 hn5 hat.out (by rw [HN.out]; exact hlt) (fun h => hd h.1))
            clear hd hat hpl
            go_wp2_with (go_at_call 77; (first | (with_reducible refine (HSS.out).mono ?_) | (with_reducible refine (HST.out).mono ?_)); rintro e w' ⟨rfl, rfl⟩)
            go_round
            case rel => exact ⟨s + 1, t, by omega, by omega, by go_num, rfl, HAT.out⟩
            case measure => simp [intOf]; omega
    · obtain rfl : s = N := by omega
      have dlt : decide ((s : Int) < wrap64 ((2 : Int) ^ n)) = false := by rw [HSHN.out]; simp
      have hfin : t = bestN M n := best_at_end (by rw [HN.out]; exact hat.out)
      subst hfin
      go_wp2
      go_ret
      exact ⟨rfl, rfl⟩
end Go.Proofs.Ytejijddfepgnkaa
