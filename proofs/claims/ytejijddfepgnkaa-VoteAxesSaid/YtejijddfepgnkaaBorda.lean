/-
  vote: ballots.borda: the first candidate with the most points.
-/
import Derived.Test.YtejijddfepgnkaaFirsts
namespace Go.Proofs.Ytejijddfepgnkaa
open Go.RowKit
set_option linter.unusedVariables false
set_option linter.unusedSimpArgs false

/-- a's points by the first i places of a ballot. -/
def bordaI (l : List Nat) (n : Nat) : Nat → Nat → Nat
  | 0, _ => 0
  | i + 1, a => if a = l.getD i 0 then bordaI l n i a + (n - 1 - i) else bordaI l n i a
def bordaP (W : List (List Nat)) (n : Nat) : Nat → Nat → Nat
  | 0, _ => 0
  | k + 1, a => bordaP W n k a + bordaI (W.getD k []) n n a
theorem bordaI_le (l : List Nat) (n a : Nat) (hn : n ≤ 5) : ∀ i, bordaI l n i a ≤ 5 * i := by
  intro i
  induction i with
  | zero => simp [bordaI]
  | succ i ih => simp only [bordaI]; split <;> omega
theorem bordaP_le (W : List (List Nat)) (n a : Nat) (hn : n ≤ 5) : ∀ k, bordaP W n k a ≤ 25 * k := by
  intro k
  induction k with
  | zero => simp [bordaP]
  | succ k ih => simp only [bordaP]; have := bordaI_le (W.getD k []) n a hn n; omega
def bordaN (W : List (List Nat)) (v n : Nat) : Int := idx (pointsL n (bordaP W n v)) (maxP (pointsL n (bordaP W n v)) n)

set_option maxRecDepth 100000 in
set_option maxHeartbeats 3200000 in
theorem borda_any (A : Option Addr) (v n c : Nat) (W : List (List Nat)) (w : World) (hW : BOk W v n) (hA : RowsA w w.heap.size A (upp W)) :
    Calls Try.prog 93 #[.slice A v c] w fun e w' => e = .returned (.int .i64 (bordaN W v n)) ∧ Below w.heap.size w w' := by
  have hn5 := hW.nle
  have hn1 := hW.npos
  have h9 := hW.le
  have HNA := hide (names_any A v n c w.heap.size W w hW hA)
  have HW := hide hW
  have HA := hide hA
  have hmk := run_make_row' (P := Try.prog) 23 3 (.int .i64 0) 8 Try.underlying23 info_int rfl .i64 .i64 n (by omega) (by omega)
  obtain ⟨w1, hw1⟩ : ∃ w1, w1 = w.alloc (.cells (madeCells #[.int .i64 0] n) 3) := ⟨_, rfl⟩
  have hr1 : w1.rowIs w.heap.size 3 n (fun a => .int .i64 (bordaP W n 0 a : Nat)) := by subst hw1; exact World.rowIs_made w (.int .i64 0) n _
  have hb1 : Below w.heap.size w w1 := by subst hw1; exact (Below.refl _ _).alloc (Nat.le_refl _) _
  have HR1 := hide hr1
  have HB1 := hide hb1
  clear hW hA hr1 hb1
  go_enter Try.func93, Try.ntmps93
  go_wp2_with (go_at_call 60; refine (HNA.out).mono ?_; rintro e w' ⟨rfl, rfl⟩)
  rw [← hw1]
  clear hw1 hmk
  go_loopw [13] (fun s wr => ∃ k : Nat, k ≤ v ∧ s = .int .i64 k ∧ wr.rowIs w.heap.size 3 n (fun a => .int .i64 (bordaP W n k a : Nat)) ∧ Below w.heap.size w wr) (fun s _ => v - (intOf s).toNat)
  case atStart => exact ⟨0, Nat.zero_le _, rfl, HR1.out, HB1.out⟩
  case round =>
    obtain ⟨k, hk, rfl, hr, hb⟩ := hrel
    by_cases hlt : k < v
    · obtain ⟨b3, o3, A3, n3, c3, rfl, hb3, hc3, hx3, hle3, hI3⟩ := HA.out.at_ (k := k) (by rw [upp_length, HW.out.len]; exact hlt)
      rw [upp_getD] at hI3 hx3
      have hri := HW.out.rows k hlt
      obtain rfl : n = n3 := by have := hx3.out; rw [up_length, hri.len] at this; exact this
      have hc3' := (hb.cell (p := ⟨b3, o3 + k, none⟩) hb3).trans hc3
      have hnx : Hid (∀ a, bordaP W n (k + 1) a = bordaP W n k a + bordaI (W.getD k []) n n a) := fun a => rfl
      have hple : Hid (∀ a, bordaP W n k a ≤ 225) := fun a => by have := bordaP_le W n a hn5 k; omega
      generalize W.getD k [] = l at *
      generalize bordaP W n k = f at *
      have HRI := hide hri
      have HR := hide hr
      have HB := hide hb
      clear hri hr hb hx3 hc3
      go_wp2
      go_loopw [19] (fun s wr => ∃ i : Nat, i ≤ n ∧ s = .int .i64 i ∧ wr.rowIs w.heap.size 3 n (fun a => .int .i64 (f a + bordaI l n i a : Nat)) ∧ Below w.heap.size w wr) (fun s _ => n - (intOf s).toNat)
      case atStart => exact ⟨0, Nat.zero_le _, rfl, HR.out, HB.out⟩
      case round =>
        clear HR HB hc3'
        obtain ⟨i, hi, rfl, hr, hb⟩ := hrel
        by_cases hlti : i < n
        · obtain ⟨b4, o4, x', rfl, hb4, hc4, hx4⟩ := hI3.at_ (k := i) (by rw [up_length, HRI.out.len]; exact hlti)
          rw [up_getD] at hx4
          have e4 := hx4.out
          have hxn := HRI.out.getD_lt hlti
          have hc4' := (hb.cell (p := ⟨b4, o4 + i, none⟩) hb4).trans hc4
          have hst : Hid (∀ a, bordaI l n (i + 1) a = if a = l.getD i 0 then bordaI l n i a + (n - 1 - i) else bordaI l n i a) := fun a => rfl
          generalize l.getD i 0 = x at *
          subst e4
          have q1 := hr.cell hxn
          have f1 := hr.frozen
          have hle := bordaI_le l n x hn5 i
          have hfx := hple.out x
          have hr2 := hr.set x (.int .i64 ((f x + bordaI l n i x : Nat) + ((n : Int) - 1 - i) : Int))
          have hr3 : (wr.setCell ⟨w.heap.size, x, none⟩ (.int .i64 ((f x + bordaI l n i x : Nat) + ((n : Int) - 1 - i) : Int))).rowIs w.heap.size 3 n (fun a => .int .i64 (f a + bordaI l n (i + 1) a : Nat)) := hr2.congr fun a ha => by
            rw [hst.out a]
            by_cases e : a = x
            · rw [if_pos e, if_pos e, e]; congr 1; omega
            · rw [if_neg e, if_neg e]
          have HR3 := hide hr3
          have HB := hide hb
          have hy : f x + bordaI l n i x ≤ 300 := by omega
          generalize f x + bordaI l n i x = y at *
          have w1 : wrap64 ((n : Int) - 1) = (n : Int) - 1 := by unfold wrap64; omega
          have w2 : wrap64 ((n : Int) - 1 - (i : Int)) = (n : Int) - 1 - (i : Int) := by unfold wrap64; omega
          have w3 : wrap64 ((y : Int) + ((n : Int) - 1 - (i : Int))) = (y : Int) + ((n : Int) - 1 - (i : Int)) := by unfold wrap64; omega
          have i1 : (x : Int) < (n : Int) := by omega
          clear hx4 hr hr2 hr3 hb hc4 hst
          go_wp2
          go_roundw
          case rel => exact ⟨i + 1, by omega, by go_num, HR3.out, HB.out.setCell (by show w.heap.size ≤ w.heap.size; omega) _⟩
          case measure => simp [intOf] <;> omega
        · obtain rfl : n = i := by omega
          have hr2 : wr.rowIs w.heap.size 3 n (fun a => .int .i64 (bordaP W n (k + 1) a : Nat)) := hr.congr fun a ha => by rw [hnx.out a]
          have HR := hide hr2
          have HB := hide hb
          clear hr hr2 hb
          go_wp2
          go_roundw
          case rel => exact ⟨k + 1, by omega, by go_num, HR.out, HB.out⟩
          case measure => simp [intOf] <;> omega
    · obtain rfl : v = k := by omega
      have HM := hide (most_any (some ⟨w.heap.size, 0, none⟩) n n wr.heap.size (pointsL n (bordaP W n v)) wr (by simp [pointsL]) hn1 (by omega) (points_row hr))
      have HB := hide hb
      clear hr hb
      go_wp2_with (go_at_call 106; refine (HM.out).mono ?_; rintro e w' ⟨rfl, rfl⟩)
      go_ret
      exact ⟨rfl, HB.out⟩
end Go.Proofs.Ytejijddfepgnkaa
