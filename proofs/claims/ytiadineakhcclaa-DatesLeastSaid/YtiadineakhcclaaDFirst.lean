/-
  dates: first (by Due, by the Time left), slices.Max of what is left.
-/
import Derived.Test.YtiadineakhcclaaDValid
import Derived.BigQuiet
namespace Go.Proofs.Ytiadineakhcclaa
open Go.RowKit
set_option linter.unusedVariables false
set_option linter.unusedSimpArgs false

theorem info_piece : (Try.prog.info? 44).map (fun i => (i.zero, i.size, i.bytes)) = some (some (.agg #[.int .i64 0, .int .i64 0, .int .i64 0]), 3, 24) := by kernel_rfl
set_option maxHeartbeats 800000 in
theorem jfirst_any (A T : Option Addr) (n c m c' : Nat) (L : List J4) (a b : Nat) (w : World) (hn : L.length = n) (hlen : n ≤ 8) (ha : a < n) (hb : b < n) (hA : JobsA w w.heap.size A L) :
    Calls Try.prog 109 #[.slice A n c, .int .i64 (a : Nat), .int .i64 (b : Nat), .slice T m c'] w fun e w' => e = .returned (.bool (decide ((L.getD a j0).d < (L.getD b j0).d))) ∧ Below w.heap.size w w' := by
  obtain ⟨q, o, t1, r1, d1, u1, rfl, hb1, ha0, ha1, ha2, ha3, hx1⟩ := hA.at_ (k := a) (by omega)
  obtain ⟨q', o', t2, r2, d2, u2, e, hb2, hc0, hc1, hc2, hc3, hx2⟩ := hA.at_ (k := b) (by omega)
  injection e with e; injection e with e1 e2
  subst e1; subst e2
  rw [hx1.out, hx2.out]
  show Calls _ _ _ _ fun e w' => e = .returned (.bool (decide (d1 < d2))) ∧ Below w.heap.size w w'
  have h1 : (a : Int) < (n : Int) := by omega
  have h2 : (b : Int) < (n : Int) := by omega
  clear hA hx1 hx2 hn ha0 ha1 ha3 hc0 hc1 hc3
  have HB := hide (fun k => below_drewN (Below.refl w.heap.size w) k)
  go_enter Try.func109, Try.ntmps109
  go_wp2
  go_quiet (fail)
  go_wp2
  go_ret
  exact ⟨rfl, HB.out _⟩

set_option maxHeartbeats 800000 in
theorem sfirst_any (A : Option Addr) (n c : Nat) (t : List Int) (a b : Nat) (w : World) (hn : t.length = n) (hlen : n ≤ 8) (ha : a < n) (hb : b < n) (hA : IntsA w w.heap.size A t) :
    Calls Try.prog 110 #[.agg #[], .int .i64 (a : Nat), .int .i64 (b : Nat), .slice A n c] w fun e w' => e = .returned (.bool (decide (t.getD a 0 < t.getD b 0))) ∧ Below w.heap.size w w' := by
  have hbb : Below w.heap.size w (w.alloc (.cells #[] 91)) := (Below.refl _ _).alloc (Nat.le_refl _) _
  have hA' := hA.next hbb
  obtain ⟨q, o, x1, rfl, hb1, ha1, hx1⟩ := hA'.at_ (k := a) (by omega)
  obtain ⟨q', o', x2, e, hb2, hc1, hx2⟩ := hA'.at_ (k := b) (by omega)
  injection e with e; injection e with e1 e2
  subst e1; subst e2
  rw [hx1.out, hx2.out]
  have h1 : (a : Int) < (n : Int) := by omega
  have h2 : (b : Int) < (n : Int) := by omega
  clear hA hA' hx1 hx2 hn
  have HB := hide (fun k => below_drewN hbb k)
  clear hbb
  go_enter Try.func110, Try.ntmps110
  go_wp2
  go_quiet (fail)
  go_wp2
  go_ret
  exact ⟨rfl, HB.out _⟩

def maxTo (l : List Int) : Nat → Int
  | 0 => l.getD 0 0
  | k + 1 => max (maxTo l k) (l.getD (k + 1) 0)
theorem maxTo_pos (l : List Int) (k : Nat) : 0 < maxTo l k ↔ ∃ i, i ≤ k ∧ 0 < l.getD i 0 := by
  induction k with
  | zero => exact ⟨fun h => ⟨0, Nat.le_refl _, h⟩, fun ⟨i, hi, h⟩ => by obtain rfl : i = 0 := by omega
                                                                        exact h⟩
  | succ k ih =>
    rw [maxTo]
    constructor
    · intro h
      by_cases h1 : 0 < maxTo l k
      · obtain ⟨i, hi, h2⟩ := ih.1 h1
        exact ⟨i, by omega, h2⟩
      · exact ⟨k + 1, Nat.le_refl _, by omega⟩
    · rintro ⟨i, hi, h⟩
      by_cases e : i = k + 1
      · subst e; omega
      · have := ih.2 ⟨i, by omega, h⟩; omega
theorem maxTo_z {l : List Int} {n : Nat} (hn : l.length = n) (h1 : 1 ≤ n) : decide (0 < maxTo l (n - 1)) = @decide (¬ AllZ l) (Classical.propDecidable _) := by
  rw [Bool.eq_iff_iff, decide_eq_true_eq, @decide_eq_true_iff _ (Classical.propDecidable _), maxTo_pos]
  constructor
  · rintro ⟨i, hi, h⟩ h2
    have := h2 i (by omega); omega
  · intro h
    refine Classical.byContradiction fun h2 => h fun i hi => ?_
    refine Classical.byContradiction fun h3 => h2 ⟨i, by omega, by omega⟩

set_option maxHeartbeats 800000 in
theorem maxL_any (A : Option Addr) (n c B : Nat) (l : List Int) (w : World) (hn : l.length = n) (hlen : n ≤ 8) (hn1 : 1 ≤ n) (hA : IntsA w B A l) :
    Calls Try.prog 79 #[.slice A n c] w fun e w' => e = .returned (.int .i64 (maxTo l (n - 1))) ∧ w = w' := by
  obtain ⟨b0, o0, x0, rfl, hb0, hc0, hx0⟩ := hA.at_ (k := 0) (by omega)
  rw [Nat.add_zero] at hc0
  have h1 : decide ((n : Int) < 1) = false := decide_eq_false (by omega)
  have hi0 : (0 : Int) < (n : Int) := by omega
  have HA := hide hA
  have HN := hide hn
  have HX : Hid (x0 = maxTo l 0) := hx0.out.symm
  clear hA hx0 hn
  go_enter Try.func79, Try.ntmps79
  go_wp2
  clear hc0
  go_loop [3, 4] (fun m x => ∃ (k : Nat) (y : Int), 1 ≤ k ∧ k ≤ n ∧ x = .int .i64 k ∧ m = .int .i64 y ∧ Hid (y = maxTo l (k - 1))) (fun _ x => n - (intOf x).toNat)
  case atStart => exact ⟨1, x0, Nat.le_refl _, hn1, rfl, rfl, HX⟩
  case round =>
    obtain ⟨k, y, hk1, hk, rfl, rfl, HY⟩ := hrel
    by_cases hlt : k < n
    · obtain ⟨b1, o1, z, e1, hbb, hc1, hz⟩ := HA.out.at_ (k := k) (by rw [HN.out]; exact hlt)
      injection e1 with e1; injection e1 with e2 e3
      subst e2; subst e3
      have hkn : (k : Int) < (n : Int) := by omega
      have HM : Hid ((if y < z then z else y) = maxTo l (k + 1 - 1)) := by
        obtain ⟨j, rfl⟩ : ∃ j, k = j + 1 := ⟨k - 1, by omega⟩
        have e : (if y < z then z else y) = max y z := by split <;> omega
        rw [e, HY.out, ← hz.out]
        rfl
      clear hz
      go_wp2
      go_round
      case rel => exact ⟨k + 1, _, by omega, by omega, by go_num, rfl, HM⟩
      case measure => simp [intOf] <;> omega
    · obtain rfl : n = k := by omega
      have e9 := HY.out
      subst e9
      go_wp2
      go_ret
      exact ⟨rfl, rfl⟩
end Go.Proofs.Ytiadineakhcclaa
