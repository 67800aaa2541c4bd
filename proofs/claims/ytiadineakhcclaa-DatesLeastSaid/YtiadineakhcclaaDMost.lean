/-
  dates: best, Most, Weigh.
-/
import Derived.Test.YtiadineakhcclaaDWeigh
import Derived.BigQuiet
namespace Go.Proofs.Ytiadineakhcclaa
open Go.RowKit
set_option linter.unusedVariables false
set_option linter.unusedSimpArgs false

/-- The least set that fits with the greatest value, of the first k. -/
def bestV (v : Nat → Int) (f : Nat → Bool) : Nat → Nat
  | 0 => 0
  | k + 1 => if v (bestV v f k) < v k ∧ f k = true then k else bestV v f k
theorem bestV_le (v : Nat → Int) (f : Nat → Bool) : ∀ k, bestV v f k ≤ k
  | 0 => Nat.le_refl _
  | k + 1 => by
      have := bestV_le v f k
      unfold bestV
      split <;> omega
theorem pow256 {n : Nat} (h : n ≤ 8) : 2 ^ n ≤ 256 := Nat.pow_le_pow_right (n := 2) (by decide) h
theorem wrap_pow {n : Nat} (h : n ≤ 8) : wrap64 (2 ^ min n 64) = ((2 ^ n : Nat) : Int) := by
  rw [show min n 64 = n by omega]; exact shl_one n (by omega)
theorem goes_most1 : Goes Try.prog 72 := goes_of Try.func72 (by kernel_rfl) (by kernel_rfl)
theorem goes_weight : Goes Try.prog 74 := goes_of Try.func74 (by kernel_rfl) (by kernel_rfl)
set_option maxRecDepth 100000 in
set_option maxHeartbeats 1600000 in
theorem best_most (A : Option Addr) (n c : Nat) (L : List J4) (w : World) (hn : L.length = n) (hL : JobsOk L) (hA : JobsA w w.heap.size A L) :
    Calls Try.prog 71 #[.slice A n c, .func (.func 72) #[] #[]] w fun e w' => e = .returned (.int .i64 (bestV (fun S => (cardF 8 S : Int)) (fitB L) (2 ^ n) : Nat)) ∧ Below w.heap.size w w' := by
  have h8 : n ≤ 8 := by rw [← hn]; exact hL.le
  obtain ⟨v, hv⟩ : ∃ v : Nat → Int, v = (fun S => (cardF 8 S : Int)) := ⟨_, rfl⟩
  have HV : Hid (∀ (w' : World) (S : Nat), Below w.heap.size w w' → S < 256 → Calls Try.prog 72 #[.int .i64 (S : Nat)] w' fun e w'' => e = .returned (.int .i64 (v S)) ∧ Below w.heap.size w w'') := fun w' S hb hS => by
    rw [hv]
    exact (most1_any S hS w').mono fun _ _ h => ⟨h.1, h.2 ▸ hb⟩
  have HF : Hid (∀ (w' : World) (S : Nat), Below w.heap.size w w' → S < 256 → Calls Try.prog 84 #[.slice A n c, .int .i64 (S : Nat)] w' fun e w'' => e = .returned (.bool (fitB L S)) ∧ Below w.heap.size w w'') := fun w' S hb hS =>
    (fits_any A n c S L w' hn hL hS (hA.next hb)).mono fun _ _ h => ⟨h.1, hb.trans (h.2.mono hb.size)⟩
  rw [← hv]
  obtain ⟨N, hN⟩ : ∃ N, N = 2 ^ n := ⟨_, rfl⟩
  have hN8 : N ≤ 256 := by rw [hN]; exact pow256 h8
  have HW : Hid (wrap64 (2 ^ min n 64) = (N : Int)) := by rw [hN]; exact wrap_pow h8
  have HW2 : Hid (wrap64 (2 ^ n) = (N : Int)) := by rw [hN]; exact hide (shl_one n (by omega))
  rw [← hN]
  obtain ⟨f, hf⟩ : ∃ f, f = fitB L := ⟨_, rfl⟩
  rw [← hf] at HF ⊢
  clear hA hL hn hv hN hf
  go_enter Try.func71, Try.ntmps71
  go_wp2
  first | rw [HW.out] | rw [HW2.out]
  go_loopw [5, 10] (fun v5 v10 wr => ∃ (k b : Nat), k ≤ N ∧ v10 = .int .i64 k ∧ v5 = .int .i64 (b : Nat) ∧ Hid (b = bestV v f k) ∧ Below w.heap.size w wr) (fun _ v _ => N - (intOf v).toNat)
  case atStart => exact ⟨0, 0, Nat.zero_le _, rfl, rfl, hide rfl, Below.refl _ _⟩
  case round =>
    obtain ⟨k, b, hk, rfl, rfl, HB, hb⟩ := hrel
    obtain ⟨w1, rfl⟩ : ∃ w1 : World, w1 = wr := ⟨_, rfl⟩
    by_cases hlt : k < N
    · have hkn : (k : Int) < (N : Int) := by omega
      have hb8 : b ≤ k := by rw [HB.out]; exact bestV_le v f k
      have hk8 : k < 256 := by omega
      have HS := hide (show bestV v f (k + 1) = if v (bestV v f k) < v k ∧ f k = true then k else bestV v f k from rfl)
      rw [← HB.out] at HS
      have HC1 := hide (HV.out w1 k hb hk8)
      have HC2 : Hid (∀ w', Below w.heap.size w w' → Calls Try.prog 72 #[.int .i64 (b : Nat)] w' fun e w'' => e = .returned (.int .i64 (v b)) ∧ Below w.heap.size w w'') := fun w' h => HV.out w' b h (by omega)
      have HC3 : Hid (∀ w', Below w.heap.size w w' → Calls Try.prog 84 #[.slice A n c, .int .i64 (k : Nat)] w' fun e w'' => e = .returned (.bool (f k)) ∧ Below w.heap.size w w'') := fun w' h => HF.out w' k h hk8
      obtain ⟨x, hx⟩ : ∃ x, x = v k := ⟨_, rfl⟩
      obtain ⟨y, hy⟩ : ∃ y, y = v b := ⟨_, rfl⟩
      obtain ⟨z, hz⟩ : ∃ z, z = f k := ⟨_, rfl⟩
      rw [← hx] at HC1 HS
      rw [← hy] at HC2 HS
      rw [← hz] at HC3 HS
      clear hx hy hz hb
      by_cases hxy : y < x
      · cases z with
        | true =>
          have HT : Hid (k = bestV v f (k + 1)) := hide (by rw [HS.out, if_pos ⟨hxy, rfl⟩])
          clear HS
          go_wp2_with (first
            | (go_at_call 72; (with_reducible refine (HC1.out).mono ?_); rintro e w2 ⟨rfl, hb2⟩; have HB2 := hide hb2; clear hb2)
            | (go_at_call 72; (with_reducible refine (HC2.out _ HB2.out).mono ?_); rintro e w3 ⟨rfl, hb3⟩; have HB3 := hide hb3; clear hb3)
            | (go_at_call 84; (with_reducible refine (HC3.out _ HB3.out).mono ?_); rintro e w4 ⟨rfl, hb4⟩; have HB4 := hide hb4; clear hb4))
          go_roundw
          case rel => exact ⟨k + 1, k, by omega, by go_num, rfl, HT, HB4.out⟩
          case measure => simp [intOf] <;> omega
        | false =>
          have HT : Hid (b = bestV v f (k + 1)) := hide (by rw [HS.out, if_neg (fun h => by cases h.2)])
          clear HS
          go_wp2_with (first
            | (go_at_call 72; (with_reducible refine (HC1.out).mono ?_); rintro e w2 ⟨rfl, hb2⟩; have HB2 := hide hb2; clear hb2)
            | (go_at_call 72; (with_reducible refine (HC2.out _ HB2.out).mono ?_); rintro e w3 ⟨rfl, hb3⟩; have HB3 := hide hb3; clear hb3)
            | (go_at_call 84; (with_reducible refine (HC3.out _ HB3.out).mono ?_); rintro e w4 ⟨rfl, hb4⟩; have HB4 := hide hb4; clear hb4))
          go_roundw
          case rel => exact ⟨k + 1, b, by omega, by go_num, rfl, HT, HB4.out⟩
          case measure => simp [intOf] <;> omega
      · have HT : Hid (b = bestV v f (k + 1)) := hide (by rw [HS.out, if_neg (fun h => hxy h.1)])
        clear HS
        go_wp2_with (first
          | (go_at_call 72; (with_reducible refine (HC1.out).mono ?_); rintro e w2 ⟨rfl, hb2⟩; have HB2 := hide hb2; clear hb2)
          | (go_at_call 72; (with_reducible refine (HC2.out _ HB2.out).mono ?_); rintro e w3 ⟨rfl, hb3⟩; have HB3 := hide hb3; clear hb3))
        go_roundw
        case rel => exact ⟨k + 1, b, by omega, by go_num, rfl, HT, HB3.out⟩
        case measure => simp [intOf] <;> omega
    · obtain rfl : N = k := by omega
      have HB1 := hide hb
      clear hb
      go_wp2
      go_ret
      exact ⟨by rw [← HB.out]; rfl, HB1.out⟩
set_option maxRecDepth 100000 in
set_option maxHeartbeats 1600000 in
theorem best_weight (A : Option Addr) (n c : Nat) (L : List J4) (w : World) (hn : L.length = n) (hL : JobsOk L) (hA : JobsA w w.heap.size A L) :
    Calls Try.prog 71 #[.slice A n c, .func (.func 74) #[.slice A n c] #[]] w fun e w' => e = .returned (.int .i64 (bestV (fun S => wtN L S L.length) (fitB L) (2 ^ n) : Nat)) ∧ Below w.heap.size w w' := by
  have h8 : n ≤ 8 := by rw [← hn]; exact hL.le
  obtain ⟨v, hv⟩ : ∃ v : Nat → Int, v = (fun S => wtN L S L.length) := ⟨_, rfl⟩
  have HV : Hid (∀ (w' : World) (S : Nat), Below w.heap.size w w' → S < 256 → Calls Try.prog 74 #[.slice A n c, .int .i64 (S : Nat)] w' fun e w'' => e = .returned (.int .i64 (v S)) ∧ Below w.heap.size w w'') := fun w' S hb hS => by
    rw [hv]
    show Calls _ _ _ _ fun e w'' => e = .returned (.int .i64 (wtN L S L.length)) ∧ _
    rw [hn]
    exact (weight_any A n c S L w' hn hL hS (hA.next hb)).mono fun _ _ h => ⟨h.1, hb.trans (h.2.mono hb.size)⟩
  have HF : Hid (∀ (w' : World) (S : Nat), Below w.heap.size w w' → S < 256 → Calls Try.prog 84 #[.slice A n c, .int .i64 (S : Nat)] w' fun e w'' => e = .returned (.bool (fitB L S)) ∧ Below w.heap.size w w'') := fun w' S hb hS =>
    (fits_any A n c S L w' hn hL hS (hA.next hb)).mono fun _ _ h => ⟨h.1, hb.trans (h.2.mono hb.size)⟩
  rw [← hv]
  obtain ⟨N, hN⟩ : ∃ N, N = 2 ^ n := ⟨_, rfl⟩
  have hN8 : N ≤ 256 := by rw [hN]; exact pow256 h8
  have HW : Hid (wrap64 (2 ^ min n 64) = (N : Int)) := by rw [hN]; exact wrap_pow h8
  have HW2 : Hid (wrap64 (2 ^ n) = (N : Int)) := by rw [hN]; exact hide (shl_one n (by omega))
  rw [← hN]
  obtain ⟨f, hf⟩ : ∃ f, f = fitB L := ⟨_, rfl⟩
  rw [← hf] at HF ⊢
  clear hA hL hn hv hN hf
  go_enter Try.func71, Try.ntmps71
  go_wp2
  first | rw [HW.out] | rw [HW2.out]
  go_loopw [5, 10] (fun v5 v10 wr => ∃ (k b : Nat), k ≤ N ∧ v10 = .int .i64 k ∧ v5 = .int .i64 (b : Nat) ∧ Hid (b = bestV v f k) ∧ Below w.heap.size w wr) (fun _ v _ => N - (intOf v).toNat)
  case atStart => exact ⟨0, 0, Nat.zero_le _, rfl, rfl, hide rfl, Below.refl _ _⟩
  case round =>
    obtain ⟨k, b, hk, rfl, rfl, HB, hb⟩ := hrel
    obtain ⟨w1, rfl⟩ : ∃ w1 : World, w1 = wr := ⟨_, rfl⟩
    by_cases hlt : k < N
    · have hkn : (k : Int) < (N : Int) := by omega
      have hb8 : b ≤ k := by rw [HB.out]; exact bestV_le v f k
      have hk8 : k < 256 := by omega
      have HS := hide (show bestV v f (k + 1) = if v (bestV v f k) < v k ∧ f k = true then k else bestV v f k from rfl)
      rw [← HB.out] at HS
      have HC1 := hide (HV.out w1 k hb hk8)
      have HC2 : Hid (∀ w', Below w.heap.size w w' → Calls Try.prog 74 #[.slice A n c, .int .i64 (b : Nat)] w' fun e w'' => e = .returned (.int .i64 (v b)) ∧ Below w.heap.size w w'') := fun w' h => HV.out w' b h (by omega)
      have HC3 : Hid (∀ w', Below w.heap.size w w' → Calls Try.prog 84 #[.slice A n c, .int .i64 (k : Nat)] w' fun e w'' => e = .returned (.bool (f k)) ∧ Below w.heap.size w w'') := fun w' h => HF.out w' k h hk8
      obtain ⟨x, hx⟩ : ∃ x, x = v k := ⟨_, rfl⟩
      obtain ⟨y, hy⟩ : ∃ y, y = v b := ⟨_, rfl⟩
      obtain ⟨z, hz⟩ : ∃ z, z = f k := ⟨_, rfl⟩
      rw [← hx] at HC1 HS
      rw [← hy] at HC2 HS
      rw [← hz] at HC3 HS
      clear hx hy hz hb
      by_cases hxy : y < x
      · cases z with
        | true =>
          have HT : Hid (k = bestV v f (k + 1)) := hide (by rw [HS.out, if_pos ⟨hxy, rfl⟩])
          clear HS
          go_wp2_with (first
            | (go_at_call 74; (with_reducible refine (HC1.out).mono ?_); rintro e w2 ⟨rfl, hb2⟩; have HB2 := hide hb2; clear hb2)
            | (go_at_call 74; (with_reducible refine (HC2.out _ HB2.out).mono ?_); rintro e w3 ⟨rfl, hb3⟩; have HB3 := hide hb3; clear hb3)
            | (go_at_call 84; (with_reducible refine (HC3.out _ HB3.out).mono ?_); rintro e w4 ⟨rfl, hb4⟩; have HB4 := hide hb4; clear hb4))
          go_roundw
          case rel => exact ⟨k + 1, k, by omega, by go_num, rfl, HT, HB4.out⟩
          case measure => simp [intOf] <;> omega
        | false =>
          have HT : Hid (b = bestV v f (k + 1)) := hide (by rw [HS.out, if_neg (fun h => by cases h.2)])
          clear HS
          go_wp2_with (first
            | (go_at_call 74; (with_reducible refine (HC1.out).mono ?_); rintro e w2 ⟨rfl, hb2⟩; have HB2 := hide hb2; clear hb2)
            | (go_at_call 74; (with_reducible refine (HC2.out _ HB2.out).mono ?_); rintro e w3 ⟨rfl, hb3⟩; have HB3 := hide hb3; clear hb3)
            | (go_at_call 84; (with_reducible refine (HC3.out _ HB3.out).mono ?_); rintro e w4 ⟨rfl, hb4⟩; have HB4 := hide hb4; clear hb4))
          go_roundw
          case rel => exact ⟨k + 1, b, by omega, by go_num, rfl, HT, HB4.out⟩
          case measure => simp [intOf] <;> omega
      · have HT : Hid (b = bestV v f (k + 1)) := hide (by rw [HS.out, if_neg (fun h => hxy h.1)])
        clear HS
        go_wp2_with (first
          | (go_at_call 74; (with_reducible refine (HC1.out).mono ?_); rintro e w2 ⟨rfl, hb2⟩; have HB2 := hide hb2; clear hb2)
          | (go_at_call 74; (with_reducible refine (HC2.out _ HB2.out).mono ?_); rintro e w3 ⟨rfl, hb3⟩; have HB3 := hide hb3; clear hb3))
        go_roundw
        case rel => exact ⟨k + 1, b, by omega, by go_num, rfl, HT, HB3.out⟩
        case measure => simp [intOf] <;> omega
    · obtain rfl : N = k := by omega
      have HB1 := hide hb
      clear hb
      go_wp2
      go_ret
      exact ⟨by rw [← HB.out]; rfl, HB1.out⟩
end Go.Proofs.Ytiadineakhcclaa
