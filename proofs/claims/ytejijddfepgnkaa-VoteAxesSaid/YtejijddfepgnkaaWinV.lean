/-
  vote: the winner by each rule; Win.
-/
import Derived.Test.YtejijddfepgnkaaKemeny
import Derived.Test.YtejijddfepgnkaaWinner
import Derived.Test.YtejijddfepgnkaaFirsts
import Derived.Test.YtejijddfepgnkaaBorda
import Derived.Test.YtejijddfepgnkaaPaths
namespace Go.Proofs.Ytejijddfepgnkaa
open Go.RowKit
set_option linter.unusedVariables false
set_option linter.unusedSimpArgs false

/-- Kemeny's order. -/
def kemO (W : List (List Nat)) (n : Nat) : List Nat := (runJ (kemSt W) (ordsN n) (none, 0)).1.1.getD []
theorem kemO_spec (W : List (List Nat)) (n : Nat) : Ord (kemO W n) n ∧ (runJ (kemSt W) (ordsN n) (none, 0)).1 = (some (kemO W n), disN W (kemO W n)) := by
  obtain ⟨o, h1, h2⟩ := kem_best W n
  have e : kemO W n = o := by rw [kemO, h1]; rfl
  rw [e]; exact ⟨h2, h1⟩
theorem kemeny_o (A : Option Addr) (v n c : Nat) (W : List (List Nat)) (w : World) (hW : BOk W v n) (hA : RowsA w w.heap.size A (upp W)) :
    Calls Try.prog 66 #[.slice A v c] w fun e w' => ∃ X cx, e = .returned (.tuple #[.slice X n cx, .int .i64 (disN W (kemO W n) : Nat)]) ∧ n ≤ cx ∧ IntsA w' w'.heap.size X (up (kemO W n)) ∧ Below w.heap.size w w' ∧
      (∀ k, (Value.slice X n cx).ownBlock = some k → w.heap.size ≤ k) := by
  refine (kemeny_any A v n c W w hW hA).mono ?_
  rintro e w' ⟨o, X, cx, h1, h2, rfl, h3, h4, h5, h6⟩
  have e : kemO W n = o := by rw [kemO, h1]; rfl
  rw [e]
  exact ⟨X, cx, rfl, h3, h4, h5, h6⟩

set_option maxHeartbeats 800000 in
theorem ordered_any (A : Option Addr) (v n c : Nat) (W : List (List Nat)) (w : World) (hW : BOk W v n) (hA : RowsA w w.heap.size A (upp W)) :
    Calls Try.prog 95 #[.slice A v c] w fun e w' => e = .returned (.int .i64 ((kemO W n).getD 0 0 : Nat)) ∧ Below w.heap.size w w' := by
  have HK := hide (kemeny_o A v n c W w hW hA)
  have hlen := (kemO_spec W n).1.len
  have h1 := hW.npos
  generalize kemO W n = o at *
  have HL := hide hlen
  clear hW hA hlen
  go_enter Try.func95, Try.ntmps95
  go_wp2_with (go_at_call 66; refine HK.out.mono ?_; rintro e w' ⟨X, cx, rfl, h3, h4, h5, h6⟩; obtain ⟨b, o1, x, rfl, hb, hc, hx⟩ := h4.at_ (k := 0) (by rw [up_length, HL.out]; exact h1); rw [Nat.add_zero] at hc; obtain rfl : x = ((o.getD 0 0 : Nat) : Int) := (by have := hx.out; rw [up_getD] at this; exact this.symm); have H5 := hide h5; clear h4 h5 h6 hx)
  go_ret
  exact ⟨rfl, H5.out⟩

/-- The winner by rule r. -/
def winN (W : List (List Nat)) (v n r : Nat) : Int :=
  if r = 0 then firstsN W v n else if r = 1 then bordaN W v n else if r = 2 then pathsN (widM n (margM W)) n else ((kemO W n).getD 0 0 : Nat)
theorem rule_any (A : Option Addr) (v n c r : Nat) (W : List (List Nat)) (w : World) (hr : r ≤ 3) (hW : BOk W v n) (hA : RowsA w w.heap.size A (upp W)) :
    Calls Try.prog (ruleFn r) #[.slice A v c] w fun e w' => e = .returned (.int .i64 (winN W v n r)) ∧ Below w.heap.size w w' := by
  rcases (by omega : r = 0 ∨ r = 1 ∨ r = 2 ∨ r = 3) with rfl | rfl | rfl | rfl
  · exact firsts_any A v n c W w hW hA
  · exact borda_any A v n c W w hW hA
  · exact paths_any A v n c W w hW hA
  · exact ordered_any A v n c W w hW hA
theorem winnerN_any (A : Option Addr) (v n c r : Nat) (W : List (List Nat)) (w : World) (hr : r ≤ 3) (hW : BOk W v n) (hA : RowsA w w.heap.size A (upp W)) :
    Calls Try.prog 61 #[.slice A v c, .int .i64 (r : Nat)] w fun e w' => e = .returned (.int .i64 (winN W v n r)) ∧ Below w.heap.size w w' :=
  winner_any A v c r _ w hr (rule_any A v n c r W w hr hW hA)
theorem WinN_yes (A : Option Addr) (v n c r : Nat) (W : List (List Nat)) (w : World) (hr : r ≤ 3) (hW : BOk W v n) (hv : votesB (upp W) = true) (hA : RowsA w w.heap.size A (upp W)) :
    Calls Try.prog 22 #[.slice A v c, .int .i64 (r : Nat)] w fun e w' => e = .returned (.tuple #[.int .i64 (winN W v n r), .int .i64 0]) ∧ Below w.heap.size w w' :=
  Win_yes A v c r (upp W) _ w (by rw [upp_length, hW.len]) hA hv hr fun w' hw' => rule_any A v n c r W w' hr hW (hA.next hw')

/-- Win refuses. -/
theorem WinN_no (A : Option Addr) (v c : Nat) (r : Int) (L : List (List Int)) (w : World) (hn : L.length = v) (hlen : v ≤ 9223372036854775807) (hrow : ∀ l ∈ L, l.length ≤ 9223372036854775807) (hA : RowsA w w.heap.size A L) (hr : votesB L = false ∨ r < 0 ∨ 3 < r) :
    Calls Try.prog 22 #[.slice A v c, .int .i64 r] w fun e w' => e = .returned (.tuple #[.int .i64 0, .int .i64 2]) ∧ Below w.heap.size w w' := by
  have HV := hide (valid_any A v c w.heap.size L w hn hlen hrow hA)
  cases hv : votesB L with
  | false =>
    rw [hv] at HV
    clear hr hn hlen hrow hA hv
    go_enter Try.func22, Try.ntmps22
    go_wp2_with (go_at_call 62; refine (HV.out).mono ?_; rintro e w1 ⟨rfl, hb⟩; have HB := hide hb; clear hb)
    go_ret2
    exact ⟨rfl, HB.out⟩
  | true =>
    rw [hv] at HV
    have hr : r < 0 ∨ 3 < r := by rw [hv] at hr; simpa using hr
    clear hn hlen hrow hA hv
    by_cases h0 : r < 0
    · clear hr
      go_enter Try.func22, Try.ntmps22
      go_wp2_with (go_at_call 62; refine (HV.out).mono ?_; rintro e w1 ⟨rfl, hb⟩; have HB := hide hb; clear hb)
      go_ret2
      exact ⟨rfl, HB.out⟩
    · have h3 : 3 < r := by omega
      clear hr
      go_enter Try.func22, Try.ntmps22
      go_wp2_with (go_at_call 62; refine (HV.out).mono ?_; rintro e w1 ⟨rfl, hb⟩; have HB := hide hb; clear hb)
      go_ret2
      exact ⟨rfl, HB.out⟩
end Go.Proofs.Ytejijddfepgnkaa
