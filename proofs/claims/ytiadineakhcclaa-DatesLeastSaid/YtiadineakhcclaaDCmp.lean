/-
  cmp.Compare of ints; the comparison by Due.
-/
import Derived.Test.YtiadineakhcclaaDFirst
import Derived.Test.YtiadineakhcclaaAppWp
namespace Go.Proofs.Ytiadineakhcclaa
open Go.RowKit
set_option linter.unusedVariables false
set_option linter.unusedSimpArgs false

def cmpI (x y : Int) : Int := if x < y then -1 else if y < x then 1 else 0
theorem cmpI_neg {x y : Int} : cmpI x y < 0 ↔ x < y := by
  unfold cmpI; split
  · omega
  · split <;> omega
theorem isNaN_any (x : Int) (w : World) : Calls Try.prog 93 #[.int .i64 x] w fun e w' => e = .returned (.bool false) ∧ w = w' := by
  have h : (x != x) = false := by simp
  go_enter Try.func93, Try.ntmps93
  go_wp2
  go_ret
  exact ⟨rfl, rfl⟩
set_option maxHeartbeats 800000 in
theorem compare_any (x y : Int) (w : World) : Calls Try.prog 92 #[.int .i64 x, .int .i64 y] w fun e w' => e = .returned (.int .i64 (cmpI x y)) ∧ w = w' := by
  have HNX := hide (fun w => isNaN_any x w)
  have HNY := hide (fun w => isNaN_any y w)
  by_cases h1 : x < y
  · have e : cmpI x y = -1 := if_pos h1
    rw [e]
    have d1 : decide (x < y) = true := decide_eq_true h1
    clear e
    go_enter Try.func92, Try.ntmps92
    go_wp2_with (first
      | (go_at_call 93; (with_reducible refine (HNX.out _).mono ?_); rintro e w' ⟨rfl, rfl⟩)
      | (go_at_call 93; (with_reducible refine (HNY.out _).mono ?_); rintro e w' ⟨rfl, rfl⟩))
    go_ret
    exact ⟨rfl, rfl⟩
  · have d1 : decide (x < y) = false := decide_eq_false h1
    by_cases h2 : y < x
    · have e : cmpI x y = 1 := by rw [cmpI, if_neg h1, if_pos h2]
      rw [e]
      have d2 : decide (y < x) = true := decide_eq_true h2
      clear e
      go_enter Try.func92, Try.ntmps92
      go_wp2_with (first
        | (go_at_call 93; (with_reducible refine (HNX.out _).mono ?_); rintro e w' ⟨rfl, rfl⟩)
        | (go_at_call 93; (with_reducible refine (HNY.out _).mono ?_); rintro e w' ⟨rfl, rfl⟩))
      go_ret
      exact ⟨rfl, rfl⟩
    · have e : cmpI x y = 0 := by rw [cmpI, if_neg h1, if_neg h2]
      rw [e]
      have d2 : decide (y < x) = false := decide_eq_false h2
      clear e
      go_enter Try.func92, Try.ntmps92
      go_wp2_with (first
        | (go_at_call 93; (with_reducible refine (HNX.out _).mono ?_); rintro e w' ⟨rfl, rfl⟩)
        | (go_at_call 93; (with_reducible refine (HNY.out _).mono ?_); rintro e w' ⟨rfl, rfl⟩))
      go_ret
      exact ⟨rfl, rfl⟩

theorem goes_due : Goes Try.prog 91 := goes_of Try.func91 (by kernel_rfl) (by kernel_rfl)
set_option maxHeartbeats 800000 in
theorem due1_any (A : Option Addr) (n c bb : Nat) (L : List J4) (a b : Nat) (w : World) (hn : L.length = n) (hlen : n ≤ 8) (ha : a < n) (hb : b < n) (hA : JobsA w w.heap.size A L) (hc : w.cell? ⟨bb, 0, none⟩ = some (.slice A n c)) :
    Calls Try.prog 91 (#[.int .i64 (a : Nat), .int .i64 (b : Nat)] ++ #[.pointer (some ⟨bb, 0, none⟩)]) w fun e w' => e = .returned (.int .i64 (cmpI (L.getD a j0).d (L.getD b j0).d)) ∧ ∃ m, w' = w.drewN m := by
  obtain ⟨q, o, t1, r1, d1, u1, rfl, hb1, ha0, ha1, ha2, ha3, hx1⟩ := hA.at_ (k := a) (by omega)
  obtain ⟨q', o', t2, r2, d2, u2, e, hb2, hc0, hc1, hc2, hc3, hx2⟩ := hA.at_ (k := b) (by omega)
  injection e with e; injection e with e1 e2
  subst e1; subst e2
  rw [hx1.out, hx2.out]
  show Calls _ _ _ _ fun e w' => e = .returned (.int .i64 (cmpI d1 d2)) ∧ ∃ m, w' = w.drewN m
  have h1 : (a : Int) < (n : Int) := by omega
  have h2 : (b : Int) < (n : Int) := by omega
  have HCO := hide (fun w' => (compare_any d1 d2 w').mono fun _ _ h => (⟨h.1, h.2.symm⟩ : _ ∧ _))
  clear hA hx1 hx2 hn ha0 ha1 ha3 hc0 hc1 hc3
  go_enter Try.func91, Try.ntmps91
  go_wp2
  go_quiet ((go_at_call 92; exact Calls.quiet_of_same (HCO.out _)))
  go_wp2
  go_ret
  exact ⟨rfl, _, rfl⟩
end Go.Proofs.Ytiadineakhcclaa
