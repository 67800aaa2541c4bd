/-
  slices.Equal of equal lists of pieces.
-/
import Derived.Test.YtiadineakhcclaaDFirst
namespace Go.Proofs.Ytiadineakhcclaa
open Go.RowKit Go.Deep
set_option linter.unusedVariables false
set_option linter.unusedSimpArgs false

set_option maxHeartbeats 1600000 in
theorem eqdp_same (A : Option Addr) (n c : Nat) (A' : Option Addr) (c' : Nat) (l : List P3) (w : World) (hn : l.length = n) (hlen : n ≤ 9223372036854775807) (hA : PcsA w w.heap.size A l) (hA' : PcsA w w.heap.size A' l) :
    Calls Try.prog 26 #[.slice A n c, .slice A' n c'] w fun e w' => e = .returned (.bool true) ∧ Below w.heap.size w w' := by
  have hg : ∀ (x y : Operand) (xs ys : Array Value) (w : World), (eqGuard .neq 44 x y (.agg xs) (.agg ys)).run Try.prog w = .ok () w := fun x y xs ys w => run_eqGuard_agg w .neq 44 x y xs ys (by kernel_rfl)
  have hne : ∀ (a b c : Int) (w : World), (binOp .neq 44 (.agg #[.int .i64 a, .int .i64 b, .int .i64 c]) (.agg #[.int .i64 a, .int .i64 b, .int .i64 c])).run Try.prog w = .ok (.bool false) w := fun a b c w => by
    have u3 := Try.underlying3
    have hS : Try.prog.underlying 44 = some (.struct (Try.prog.fieldsOf 44)) := by kernel_rfl
    have hp : Try.prog.stoodInHeld 44 = false := by kernel_rfl
    rw [run_neq_struct, show (10000 : Nat) = 9999 + 1 from rfl, run_equalIn_agg w 9999 44 _ _ hS hp]
    simp only [Program.fieldsOf, Try.underlying44]
    go_simp
  have HN := hide hn
  have HA := hide hA
  have HA' := hide hA'
  clear hn hA hA'
  go_enter Try.func26, Try.ntmps26
  go_wp2
  go_loopw [13] (fun i wr => ∃ k : Nat, k ≤ n ∧ i = .int .i64 k ∧ Below w.heap.size w wr) (fun i _ => n - (intOf i).toNat)
  case atStart => exact ⟨0, Nat.zero_le _, rfl, Below.refl _ _⟩
  case round =>
    obtain ⟨k, hk, rfl, hb⟩ := hrel
    by_cases hlt : k < n
    · obtain ⟨b1, o1, j, f, t, rfl, hb1, hc0, hc1, hc2, hx⟩ := (HA.out.next hb).at_ (k := k) (by rw [HN.out]; exact hlt)
      obtain ⟨b2, o2, j2, f2, t2, rfl, hb2, hd0, hd1, hd2, hx2⟩ := (HA'.out.next hb).at_ (k := k) (by rw [HN.out]; exact hlt)
      have e := hx.out.symm.trans hx2.out
      injection e with e1 e2 e3
      subst e1; subst e2; subst e3
      have hkn : (k : Int) < (n : Int) := by omega
      have HBD : Hid (∀ q, Below w.heap.size w (wr.drewN q)) := fun q => below_drewN hb q
      clear hx hx2 hb
      go_wp2
      go_quiet (fail)
      go_wp2
      go_roundw
      case rel => exact ⟨k + 1, by omega, by go_num, HBD.out _⟩
      case measure => simp [intOf] <;> omega
    · obtain rfl : n = k := by omega
      go_wp2
      go_ret
      exact ⟨rfl, hb⟩
set_option maxHeartbeats 1600000 in
theorem eqrp_same (A : Option Addr) (n c : Nat) (A' : Option Addr) (c' : Nat) (l : List P3) (w : World) (hn : l.length = n) (hlen : n ≤ 9223372036854775807) (hA : PcsA w w.heap.size A l) (hA' : PcsA w w.heap.size A' l) :
    Calls Try.prog 22 #[.slice A n c, .slice A' n c'] w fun e w' => e = .returned (.bool true) ∧ Below w.heap.size w w' := by
  have hg : ∀ (x y : Operand) (xs ys : Array Value) (w : World), (eqGuard .neq 36 x y (.agg xs) (.agg ys)).run Try.prog w = .ok () w := fun x y xs ys w => run_eqGuard_agg w .neq 36 x y xs ys (by kernel_rfl)
  have hne : ∀ (a b c : Int) (w : World), (binOp .neq 36 (.agg #[.int .i64 a, .int .i64 b, .int .i64 c]) (.agg #[.int .i64 a, .int .i64 b, .int .i64 c])).run Try.prog w = .ok (.bool false) w := fun a b c w => by
    have u3 := Try.underlying3
    have hS : Try.prog.underlying 36 = some (.struct (Try.prog.fieldsOf 36)) := by kernel_rfl
    have hp : Try.prog.stoodInHeld 36 = false := by kernel_rfl
    rw [run_neq_struct, show (10000 : Nat) = 9999 + 1 from rfl, run_equalIn_agg w 9999 36 _ _ hS hp]
    simp only [Program.fieldsOf, Try.underlying36]
    go_simp
  have HN := hide hn
  have HA := hide hA
  have HA' := hide hA'
  clear hn hA hA'
  go_enter Try.func22, Try.ntmps22
  go_wp2
  go_loopw [13] (fun i wr => ∃ k : Nat, k ≤ n ∧ i = .int .i64 k ∧ Below w.heap.size w wr) (fun i _ => n - (intOf i).toNat)
  case atStart => exact ⟨0, Nat.zero_le _, rfl, Below.refl _ _⟩
  case round =>
    obtain ⟨k, hk, rfl, hb⟩ := hrel
    by_cases hlt : k < n
    · obtain ⟨b1, o1, j, f, t, rfl, hb1, hc0, hc1, hc2, hx⟩ := (HA.out.next hb).at_ (k := k) (by rw [HN.out]; exact hlt)
      obtain ⟨b2, o2, j2, f2, t2, rfl, hb2, hd0, hd1, hd2, hx2⟩ := (HA'.out.next hb).at_ (k := k) (by rw [HN.out]; exact hlt)
      have e := hx.out.symm.trans hx2.out
      injection e with e1 e2 e3
      subst e1; subst e2; subst e3
      have hkn : (k : Int) < (n : Int) := by omega
      have HBD : Hid (∀ q, Below w.heap.size w (wr.drewN q)) := fun q => below_drewN hb q
      clear hx hx2 hb
      go_wp2
      go_quiet (fail)
      go_wp2
      go_roundw
      case rel => exact ⟨k + 1, by omega, by go_num, HBD.out _⟩
      case measure => simp [intOf] <;> omega
    · obtain rfl : n = k := by omega
      go_wp2
      go_ret
      exact ⟨rfl, hb⟩
end Go.Proofs.Ytiadineakhcclaa
