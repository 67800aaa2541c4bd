/-
  Overload's value, one for the program and the reference; arrays of two ints compared.
-/
import Derived.Test.YtiadineakhcclaaDOverR
import Derived.ChangeKeysEq
namespace Go.Proofs.Ytiadineakhcclaa
open Go.RowKit Go.Deep
set_option linter.unusedVariables false
set_option linter.unusedSimpArgs false

theorem least_nat (P : Nat → Prop) (h : ∃ n, P n) : ∃ n, P n ∧ ∀ m, m < n → ¬ P m := by
  obtain ⟨n, hn⟩ := h
  induction n using Nat.strongRecOn with
  | _ n ih =>
    by_cases h2 : ∃ m, m < n ∧ P m
    · obtain ⟨m, hm, hp⟩ := h2
      exact ih m hm hp
    · exact ⟨n, hn, fun m hm hp => h2 ⟨m, hm, hp⟩⟩
theorem ov_some {L : List J4} (hL : JobsOk L) (h : 0 < delN L (planN false L)) : ∃ a b, OvP L a b := by
  obtain ⟨a0, b0, h1, h2, h3, h4⟩ := over_some hL h
  obtain ⟨a, ⟨b1, hb1, hb2, hb3⟩, ha⟩ := least_nat (fun a => ∃ b : Nat, a ≤ b ∧ b ≤ 400 ∧ (b : Int) - a < loadN L a b) ⟨a0, b0, h1, by omega, h4⟩
  obtain ⟨b, ⟨hb4, hb5, hb6⟩, hb⟩ := least_nat (fun b => a ≤ b ∧ b ≤ 400 ∧ (b : Int) - a < loadN L a b) ⟨b1, hb1, hb2, hb3⟩
  refine ⟨a, b, by omega, by omega, by omega, hb6, fun a' b' g1 g2 g3 g4 g5 => ?_⟩
  obtain ⟨x, rfl⟩ : ∃ x : Nat, a' = x := ⟨a'.toNat, by omega⟩
  obtain ⟨y, rfl⟩ : ∃ y : Nat, b' = y := ⟨b'.toNat, by omega⟩
  rcases g4 with g4 | ⟨g4, g6⟩
  · exact ha x (by omega) ⟨y, by omega, by omega, g5⟩
  · obtain rfl : x = a := by omega
    exact hb y (by omega) ⟨by omega, by omega, g5⟩
/-- What Overload hands back, of valid jobs. -/
structure OvVal (L : List J4) (a b er : Int) : Prop where
  own : ∀ (A : Option Addr) (n c : Nat) (w : World), L.length = n → JobsA w w.heap.size A L → Calls Try.prog 35 #[.slice A n c] w fun e w' => e = .returned (.tuple #[.agg #[.int .i64 a, .int .i64 b], .int .i64 er]) ∧ Below w.heap.size w w'
  ref : ∀ (A : Option Addr) (n c : Nat) (w : World), L.length = n → JobsA w w.heap.size A L → Calls Try.prog 36 #[.slice A n c] w fun e w' => e = .returned (.tuple #[.agg #[.int .i64 a, .int .i64 b], .int .i64 er]) ∧ Below w.heap.size w w'
  is : (er = 4 ∧ delN L (planN false L) ≤ 0) ∨ (er = 0 ∧ 0 < delN L (planN false L) ∧ OvP L a b)
theorem ov_val {L : List J4} (hv : jobsB L = true) : ∃ a b er, OvVal L a b er := by
  have hL := jobsB_iff.1 hv
  by_cases h : delN L (planN false L) ≤ 0
  · exact ⟨0, 0, 4, fun A n c w hn hA => overload_none A n c L w hn (by have := hL.le; omega) hA hv h, fun A n c w hn hA => refOverload_none A n c L w hn hL hA h, .inl ⟨rfl, h⟩⟩
  · obtain ⟨a, b, hab⟩ := ov_some hL (by omega)
    refine ⟨a, b, 0, fun A n c w hn hA => (overload_some A n c L w hn (by have := hL.le; omega) hA hv (by omega)).mono ?_, fun A n c w hn hA => (refOverload_some A n c L w hn hL hA (by omega)).mono ?_, .inr ⟨rfl, by omega, hab⟩⟩
    · rintro e w' ⟨a', b', h1, h2, h3⟩
      obtain ⟨rfl, rfl⟩ := hab.uniq h1
      exact ⟨h2, h3⟩
    · rintro e w' ⟨a', b', h1, h2, h3⟩
      obtain ⟨rfl, rfl⟩ := hab.uniq h1
      exact ⟨h2, h3⟩

theorem eq_pair (a b : Int) (w : World) : (binOp .eql 64 (.agg #[.int .i64 a, .int .i64 b]) (.agg #[.int .i64 a, .int .i64 b])).run Try.prog w = .ok (.bool true) w := by
  have u3 := Try.underlying3
  have c3 : Try.prog.cellsOf 3 = 1 := by kernel_rfl
  obtain ⟨i, hi, _⟩ := info_parts info_int
  rw [run_eql_struct, show (10000 : Nat) = 9999 + 1 from rfl, run_equalIn_array w 9999 _ _ Try.underlying64 hi, c3]
  simp only [show List.range 2 = [0, 1] from rfl, Op.eqItems]
  go_simp
end Go.Proofs.Ytiadineakhcclaa
