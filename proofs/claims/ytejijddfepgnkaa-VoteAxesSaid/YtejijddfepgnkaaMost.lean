/-
  slices.Max and vote.most: the first of the greatest numbers.
-/
import Derived.Test.YtejijddfepgnkaaIndex
import Derived.Test.YtejijddfepgnkaaUpTo
namespace Go.Proofs.Ytejijddfepgnkaa
open Go.RowKit
set_option linter.unusedVariables false
set_option linter.unusedSimpArgs false

/-- The greatest of the first k numbers. -/
def maxP (l : List Int) : Nat → Int
  | 0 => l.getD 0 0
  | k + 1 => max (maxP l k) (l.getD k 0)
set_option maxHeartbeats 800000 in
theorem max_any (A : Option Addr) (n c B : Nat) (l : List Int) (w : World) (hn : l.length = n) (h1 : 1 ≤ n) (hlen : n ≤ 9223372036854775807) (hA : IntsA w B A l) :
    Calls Try.prog 114 #[.slice A n c] w fun e w' => e = .returned (.int .i64 (maxP l n)) ∧ w = w' := by
  subst hn
  obtain ⟨b0, o0, x0, rfl, hb0, hc0, hx0⟩ := hA.at_ (k := 0) h1
  rw [Nat.add_zero] at hc0
  have hm1 : Hid (x0 = maxP l 1) := by show _ = _; rw [← hx0.out]; simp [maxP]
  have hi0 : (0 : Int) < (l.length : Int) := by omega
  have hd : ¬ ((l.length : Int) < 1) := by omega
  clear hx0
  go_enter Try.func114, Try.ntmps114
  go_wp2
  go_loop [3, 4] (fun m i => ∃ (k : Nat) (x : Int), 1 ≤ k ∧ k ≤ l.length ∧ i = .int .i64 k ∧ m = .int .i64 x ∧ Hid (x = maxP l k)) (fun _ i => l.length - (intOf i).toNat)
  case atStart => exact ⟨1, x0, Nat.le_refl _, h1, rfl, rfl, hm1⟩
  case round =>
    obtain ⟨k, x, hk1, hk, rfl, rfl, hx⟩ := hrel
    by_cases hlt : k < l.length
    · obtain ⟨b, o, y, e, hb, hc, hy⟩ := hA.at_ hlt
      injection e with e
      injection e with e1 e2 _
      subst e1; subst e2
      have hmx : Hid ((if x < y then y else x) = maxP l (k + 1)) := by
        show _ = _
        rw [maxP, ← hx.out, hy.out]
        split <;> omega
      clear hy
      go_wp2
      go_round
      case rel => exact ⟨k + 1, _, by omega, by omega, by go_num, rfl, hmx⟩
      case measure => simp [intOf]; omega
    · obtain rfl : k = l.length := by omega
      have hx' := hx.out
      have HX := hide hx'
      clear hx hx'
      go_wp2
      go_ret
      exact ⟨by rw [← HX.out]; rfl, rfl⟩
set_option maxHeartbeats 400000 in
theorem most_any (A : Option Addr) (n c B : Nat) (l : List Int) (w : World) (hn : l.length = n) (h1 : 1 ≤ n) (hlen : n ≤ 9223372036854775807) (hA : IntsA w B A l) :
    Calls Try.prog 106 #[.slice A n c] w fun e w' => e = .returned (.int .i64 (idx l (maxP l n))) ∧ w = w' := by
  have HM := hide (max_any A n c B l w hn h1 hlen hA)
  have HI := hide (index_any A n c B l (maxP l n) w hn hlen hA)
  generalize idx l (maxP l n) = r at *
  generalize maxP l n = m at *
  clear hA hn
  go_enter Try.func106, Try.ntmps106
  go_wp2_with (first
    | (go_at_call 114; refine (HM.out).mono ?_; rintro e w' ⟨rfl, rfl⟩)
    | (go_at_call 26; refine (HI.out).mono ?_; rintro e w' ⟨rfl, rfl⟩))
  go_ret
  exact ⟨rfl, rfl⟩
end Go.Proofs.Ytejijddfepgnkaa
