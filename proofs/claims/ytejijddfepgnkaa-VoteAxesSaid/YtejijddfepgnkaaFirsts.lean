/-
  vote: ballots.firsts and ballots.borda: the first candidate with the most points.
-/
import Derived.Test.YtejijddfepgnkaaMost
import Derived.WalkSpells
import Derived.Deep.DeepCutAuto
namespace Go.Proofs.Ytejijddfepgnkaa
open Go.RowKit
set_option linter.unusedVariables false
set_option linter.unusedSimpArgs false

/-- On how many of the first k ballots a stands first. -/
def firstsP (W : List (List Nat)) : Nat → Nat → Nat
  | 0, _ => 0
  | k + 1, a => if a = (W.getD k []).getD 0 0 then firstsP W k a + 1 else firstsP W k a
theorem firstsP_le (W : List (List Nat)) (a : Nat) : ∀ k, firstsP W k a ≤ k := by
  intro k
  induction k with
  | zero => simp [firstsP]
  | succ k ih => simp only [firstsP]; split <;> omega
def pointsL (n : Nat) (f : Nat → Nat) : List Int := up ((List.range n).map f)
def firstsN (W : List (List Nat)) (v n : Nat) : Int := idx (pointsL n (firstsP W v)) (maxP (pointsL n (firstsP W v)) n)
theorem points_row {w : World} {b n : Nat} {f : Nat → Nat} (h : w.rowIs b 3 n fun a => .int .i64 (f a : Nat)) : IntsA w w.heap.size (some ⟨b, 0, none⟩) (pointsL n f) :=
  ints_of_row h (by simp [pointsL]) fun i hi => by
    rw [pointsL, up_getD]
    simp [List.getD_eq_getElem?_getD, hi]

set_option maxRecDepth 100000 in
set_option maxHeartbeats 1600000 in
theorem firsts_any (A : Option Addr) (v n c : Nat) (W : List (List Nat)) (w : World) (hW : BOk W v n) (hA : RowsA w w.heap.size A (upp W)) :
    Calls Try.prog 92 #[.slice A v c] w fun e w' => e = .returned (.int .i64 (firstsN W v n)) ∧ Below w.heap.size w w' := by
  have hn5 := hW.nle
  have hn1 := hW.npos
  have h9 := hW.le
  have HNA := hide (names_any A v n c w.heap.size W w hW hA)
  have HW := hide hW
  have HA := hide hA
  have hmk := run_make_row' (P := Try.prog) 23 3 (.int .i64 0) 8 Try.underlying23 info_int rfl .i64 .i64 n (by omega) (by omega)
  obtain ⟨w1, hw1⟩ : ∃ w1, w1 = w.alloc (.cells (madeCells #[.int .i64 0] n) 3) := ⟨_, rfl⟩
  have hr1 : w1.rowIs w.heap.size 3 n (fun a => .int .i64 (firstsP W 0 a : Nat)) := by subst hw1; exact World.rowIs_made w (.int .i64 0) n _
  have hb1 : Below w.heap.size w w1 := by subst hw1; exact (Below.refl _ _).alloc (Nat.le_refl _) _
  have HR1 := hide hr1
  have HB1 := hide hb1
  clear hW hA hr1 hb1
  go_enter Try.func92, Try.ntmps92
  go_wp2_with (go_at_call 60; refine (HNA.out).mono ?_; rintro e w' ⟨rfl, rfl⟩)
  rw [← hw1]
  clear hw1 hmk
  go_loopw [11] (fun s wr => ∃ k : Nat, k ≤ v ∧ s = .int .i64 k ∧ wr.rowIs w.heap.size 3 n (fun a => .int .i64 (firstsP W k a : Nat)) ∧ Below w.heap.size w wr) (fun s _ => v - (intOf s).toNat)
  case atStart => exact ⟨0, Nat.zero_le _, rfl, HR1.out, HB1.out⟩
  case round =>
    obtain ⟨k, hk, rfl, hr, hb⟩ := hrel
    by_cases hlt : k < v
    · obtain ⟨b3, o3, A3, n3, c3, rfl, hb3, hc3, hx3, hle3, hI3⟩ := HA.out.at_ (k := k) (by rw [upp_length, HW.out.len]; exact hlt)
      rw [upp_getD] at hI3 hx3
      have hri := HW.out.rows k hlt
      obtain rfl : n = n3 := by have := hx3.out; rw [up_length, hri.len] at this; exact this
      obtain ⟨b4, o4, x', rfl, hb4, hc4, hx4⟩ := hI3.at_ (k := 0) (by rw [up_length, hri.len]; exact hn1)
      rw [up_getD] at hx4
      rw [Nat.add_zero] at hc4
      have e4 := hx4.out
      have hxn := hri.getD_lt (i := 0) hn1
      have hc3' := (hb.cell (p := ⟨b3, o3 + k, none⟩) hb3).trans hc3
      have hc4' := (hb.cell (p := ⟨b4, o4, none⟩) hb4).trans hc4
      have hst : Hid (∀ a, firstsP W (k + 1) a = if a = (W.getD k []).getD 0 0 then firstsP W k a + 1 else firstsP W k a) := fun a => rfl
      generalize (W.getD k []).getD 0 0 = x at *
      subst e4
      have q1 := hr.cell hxn
      have f1 := hr.frozen
      have hle := firstsP_le W x k
      have hr2 := hr.set x (.int .i64 ((firstsP W k x : Nat) + 1 : Int))
      have hr3 : (wr.setCell ⟨w.heap.size, x, none⟩ (.int .i64 ((firstsP W k x : Nat) + 1 : Int))).rowIs w.heap.size 3 n (fun a => .int .i64 (firstsP W (k + 1) a : Nat)) := hr2.congr fun a ha => by
        rw [hst.out a]
        by_cases e : a = x
        · rw [if_pos e, if_pos e, e]; rfl
        · rw [if_neg e, if_neg e]
      have HR3 := hide hr3
      have HB := hide hb
      generalize firstsP W k x = y at *
      have w1 : wrap64 ((y : Int) + 1) = (y : Int) + 1 := by unfold wrap64; omega
      have i1 : (x : Int) < (n : Int) := by omega
      have i2 : (0 : Int) < (n : Int) := by omega
      clear hx3 hI3 hx4 hr hr2 hr3 hb hc3 hc4 hst hri
      go_wp2
      go_roundw
      case rel => exact ⟨k + 1, by omega, by go_num, HR3.out, HB.out.setCell (by show w.heap.size ≤ w.heap.size; omega) _⟩
      case measure => simp [intOf] <;> omega
    · obtain rfl : v = k := by omega
      have HM := hide (most_any (some ⟨w.heap.size, 0, none⟩) n n wr.heap.size (pointsL n (firstsP W v)) wr (by simp [pointsL]) hn1 (by omega) (points_row hr))
      have HB := hide hb
      clear hr hb
      go_wp2_with (go_at_call 106; refine (HM.out).mono ?_; rintro e w' ⟨rfl, rfl⟩)
      go_ret
      exact ⟨rfl, HB.out⟩
end Go.Proofs.Ytejijddfepgnkaa
