/-
  The reference's Margin.
-/
import Derived.Test.YtejijddfepgnkaaVPlain
import Derived.Test.YtejijddfepgnkaaMargEq
import Derived.Test.YtejijddfepgnkaaDisagree
import Derived.Test.YtejijddfepgnkaaRankVote
namespace Go.Proofs.Ytejijddfepgnkaa
open Go.RowKit
set_option linter.unusedVariables false
set_option linter.unusedSimpArgs false

set_option maxRecDepth 100000 in
set_option maxHeartbeats 1600000 in
theorem refMargin_any (A : Option Addr) (v n c B a b : Nat) (W : List (List Nat)) (w : World) (hW : BOk W v n) (ha : a < n) (hb : b < n) (hA : RowsA w B A (upp W)) :
    Calls Try.prog 76 #[.slice A v c, .int .i64 (a : Nat), .int .i64 (b : Nat)] w fun e w' => e = .returned (.int .i64 (marg W a b)) ∧ w = w' := by
  have hn5 := hW.nle
  have h9 := hW.le
  obtain ⟨tot, htot⟩ : ∃ tot, marg W a b = tot := ⟨_, rfl⟩
  rw [htot]
  have HT := hide htot
  have HW := hide hW
  clear hW htot
  go_enter Try.func76, Try.ntmps76
  go_wp2
  go_loop [7, 12] (fun s i => ∃ (k : Nat) (s' : Int), k ≤ v ∧ i = .int .i64 k ∧ s = .int .i64 s' ∧ Hid (s' + marg (W.drop k) a b = tot) ∧ Hid (-(k : Int) ≤ s' ∧ s' ≤ k)) (fun _ i => v - (intOf i).toNat)
  case atStart => exact ⟨0, 0, Nat.zero_le _, rfl, rfl, by show _ = _; rw [List.drop_zero, HT.out]; omega, by show _ ∧ _; omega⟩
  case round =>
    obtain ⟨k, s, hk, rfl, rfl, hs, hsb⟩ := hrel
    by_cases hlt : k < v
    · obtain ⟨b3, o3, A3, n3, c3, rfl, hb3, hc3, hx3, hle3, hI3⟩ := hA.at_ (k := k) (by rw [upp_length, HW.out.len]; exact hlt)
      rw [upp_getD] at hI3 hx3
      have hri := HW.out.rows k hlt
      obtain rfl : n = n3 := by have := hx3.out; rw [up_length, hri.len] at this; exact this
      have hs2 : s + mark (W.getD k []) a b + marg (W.drop (k + 1)) a b = tot := by
        have := hs.out
        rw [drop_cons_row (by rw [HW.out.len]; exact hlt), marg_cons] at this
        omega
      generalize W.getD k [] = l at *
      have HC1 := hide ((rank_any A3 n c3 B (up l) (a : Int) w (by rw [up_length, hri.len]) (by omega) hI3).mono fun e w' h => (show e = .returned (.int .i64 (place l a)) ∧ w = w' from ⟨by rw [h.1, idx_up_mem ((hri.mem a).2 ha)], h.2⟩))
      have HC2 := hide ((rank_any A3 n c3 B (up l) (b : Int) w (by rw [up_length, hri.len]) (by omega) hI3).mono fun e w' h => (show e = .returned (.int .i64 (place l b)) ∧ w = w' from ⟨by rw [h.1, idx_up_mem ((hri.mem b).2 hb)], h.2⟩))
      have hmk : mark l a b = if place l a < place l b then 1 else if place l b < place l a then -1 else 0 := rfl
      rw [hmk] at hs2
      have hsb' := hsb.out
      generalize place l a = p1 at *
      generalize place l b = p2 at *
      clear hx3 hri hI3 hmk hs
      by_cases h1 : p1 < p2
      · rw [if_pos h1] at hs2
        have HS2 := hide hs2
        have hd : (p1 : Int) < (p2 : Int) := by omega
        clear hs2
        go_wp2_with (first
          | (go_at_call 68; with_reducible refine (HC1.out).mono ?_; rintro e w' ⟨rfl, rfl⟩)
          | (go_at_call 68; with_reducible refine (HC2.out).mono ?_; rintro e w' ⟨rfl, rfl⟩))
        go_round
        case rel => exact ⟨k + 1, s + 1, by omega, by go_num, by go_num, HS2.out, by show _ ∧ _; omega⟩
        case measure => simp [intOf]; omega
      · rw [if_neg h1] at hs2
        have hd : ¬ (p1 : Int) < (p2 : Int) := by omega
        by_cases h2 : p2 < p1
        · rw [if_pos h2] at hs2
          have HS2 := hide hs2
          have hd2 : (p2 : Int) < (p1 : Int) := by omega
          clear hs2
          go_wp2_with (first
            | (go_at_call 68; with_reducible refine (HC1.out).mono ?_; rintro e w' ⟨rfl, rfl⟩)
            | (go_at_call 68; with_reducible refine (HC2.out).mono ?_; rintro e w' ⟨rfl, rfl⟩))
          go_round
          case rel => exact ⟨k + 1, s - 1, by omega, by go_num, by go_num, by show _ = _; have := HS2.out; omega, by show _ ∧ _; omega⟩
          case measure => simp [intOf]; omega
        · rw [if_neg h2] at hs2
          have HS2 := hide hs2
          have hd2 : ¬ (p2 : Int) < (p1 : Int) := by omega
          clear hs2
          go_wp2_with (first
            | (go_at_call 68; with_reducible refine (HC1.out).mono ?_; rintro e w' ⟨rfl, rfl⟩)
            | (go_at_call 68; with_reducible refine (HC2.out).mono ?_; rintro e w' ⟨rfl, rfl⟩))
          go_round
          case rel => exact ⟨k + 1, s, by omega, by go_num, rfl, by show _ = _; have := HS2.out; omega, by show _ ∧ _; omega⟩
          case measure => simp [intOf]; omega
    · obtain rfl : v = k := by omega
      have hs6 : s = tot := by
        have := hs.out
        rw [List.drop_eq_nil_of_le (by rw [HW.out.len]; omega)] at this
        simpa [marg] using this
      have HS6 := hide hs6
      clear hs hs6
      go_wp2
      go_ret
      exact ⟨by rw [← HS6.out]; rfl, rfl⟩
end Go.Proofs.Ytejijddfepgnkaa
