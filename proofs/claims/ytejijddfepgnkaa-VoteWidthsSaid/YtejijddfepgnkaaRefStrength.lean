/-
  The reference's strength of a path.
-/
import Derived.Test.YtejijddfepgnkaaRefMargin
import Derived.BigQuiet
namespace Go.Proofs.Ytejijddfepgnkaa
open Go.RowKit
set_option linter.unusedVariables false
set_option linter.unusedSimpArgs false

/-- The least margin of the first i steps. -/
def strTo (W : List (List Nat)) (p : List Nat) : Nat → Int
  | 0 => 99
  | i + 1 => min (strTo W p i) (marg W (p.getD i 0) (p.getD (i + 1) 0))
def strN (W : List (List Nat)) (p : List Nat) : Int := strTo W p (p.length - 1)
theorem strTo_bd {W : List (List Nat)} (h9 : W.length ≤ 9) (p : List Nat) : ∀ i, -9 ≤ strTo W p i ∧ strTo W p i ≤ 99
  | 0 => by simp [strTo]
  | i + 1 => by
    have h1 := strTo_bd h9 p i
    have h2 := marg_bd (p.getD i 0) (p.getD (i + 1) 0) W
    rw [strTo]
    omega

set_option maxRecDepth 100000 in
set_option maxHeartbeats 1600000 in
theorem strength_any (A X : Option Addr) (v n c k cx : Nat) (W : List (List Nat)) (p : List Nat) (w : World) (hW : BOk W v n) (hA : RowsA w w.heap.size A (upp W)) (hk : p.length = k) (hk1 : 1 ≤ k) (hk60 : k ≤ 60) (hp : ∀ x ∈ p, x < n) (hX : IntsA w w.heap.size X (up p)) :
    Calls Try.prog 78 #[.slice A v c, .slice X k cx] w fun e w' => e = .returned (.int .i64 (strN W p)) ∧ Below w.heap.size w w' := by
  have hn5 := hW.nle
  have h9 : W.length ≤ 9 := by rw [hW.len]; exact hW.le
  have HMA := hide (fun (w' : World) (hw' : Below w.heap.size w w') (a b : Nat) (ha : a < n) (hb : b < n) => refMargin_any A v n c w.heap.size a b W w' hW ha hb (hA.below hw'))
  have HPL := hide hk
  have HPM := hide hp
  clear hW hA hk hp
  go_enter Try.func78, Try.ntmps78
  go_wp2
  go_loopw [5, 6] (fun s i wr => ∃ j : Nat, j + 1 ≤ k ∧ i = .int .i64 ((j : Nat) + 1 : Int) ∧ s = .int .i64 (strTo W p j) ∧ Below w.heap.size w wr) (fun _ i _ => k - (intOf i).toNat)
  case atStart => exact ⟨0, hk1, rfl, rfl, Below.refl _ _⟩
  case round =>
    obtain ⟨j, hj, rfl, rfl, hbel⟩ := hrel
    by_cases hlt : j + 1 < k
    · obtain ⟨b1, o1, x1, hX1, hb1, hc1, hx1⟩ := hX.at_ (k := j) (by rw [up_length, HPL.out]; omega)
      obtain ⟨b2, o2, x2, hX2, hb2, hc2, hx2⟩ := hX.at_ (k := j + 1) (by rw [up_length, HPL.out]; omega)
      have e9 := hX1.symm.trans hX2
      injection e9 with e9; injection e9 with e9 e10
      subst e9; subst e10
      subst hX1
      replace hc1 := (hbel.cell (p := ⟨b1, o1 + j, none⟩) hb1).trans hc1
      replace hc2 := (hbel.cell (p := ⟨b1, o1 + (j + 1), none⟩) hb1).trans hc2
      have e1 := hx1.out
      have e2 := hx2.out
      rw [up_getD] at e1 e2
      have HC : Hid (∀ w', Below wr.heap.size wr w' → Calls Try.prog 76 #[.slice A v c, .int .i64 (p.getD j 0 : Nat), .int .i64 (p.getD (j + 1) 0 : Nat)] w' fun e w'' => e = .returned (.int .i64 (marg W (p.getD j 0) (p.getD (j + 1) 0))) ∧ Below wr.heap.size wr w'') := fun w' hw' =>
        (HMA.out w' (hbel.trans (hw'.mono hbel.size)) _ _ (HPM.out _ (getD_mem (by rw [HPL.out]; omega))) (HPM.out _ (getD_mem (by rw [HPL.out]; omega)))).mono fun e w9 h => ⟨h.1, h.2 ▸ hw'⟩
      have hbr : b1 < wr.heap.size := by have := hbel.size; omega
      have hst : strTo W p (j + 1) = min (strTo W p j) (marg W (p.getD j 0) (p.getD (j + 1) 0)) := rfl
      have HST := hide hst
      have hm := marg_bd (p.getD j 0) (p.getD (j + 1) 0) W
      have hs := strTo_bd h9 p j
      generalize marg W (p.getD j 0) (p.getD (j + 1) 0) = g at *
      generalize p.getD j 0 = y1 at *
      generalize p.getD (j + 1) 0 = y2 at *
      subst e1; subst e2
      have hst2 : Hid (strTo W p (j + 1) = if g < strTo W p j then g else strTo W p j) := by show _ = _; rw [HST.out]; split <;> omega
      have hwk : IntKind.i64.wrap (j : Nat) = (j : Nat) := by rw [IntKind.wrap_i64]; omega
      have hnk : ¬ k ≤ j := by omega
      have hn0 : ¬ ((j : Int) + 1 < 0) := by omega
      have hnk2 : ¬ ((k : Int) ≤ (j : Int) + 1) := by omega
      have hlt' : (j : Int) + 1 < (k : Nat) := by omega
      have hw1 : wrap64 ((j : Int) + 1 - 1) = (j : Nat) := by unfold wrap64; omega
      clear hx1 hx2 hst
      go_wp2
      refine wp_region_below (by kernel_rfl) (by kernel_rfl) ?_
      refine wpQuiet_val' (.int .i64 (strTo W p j)) (by rfl) (fun w' hw' => by go_simp) ?_
      simp only [put_lit, List.set_cons_succ, List.set_cons_zero]
      refine wpQuiet_val' (.slice A v c) (by rfl) (fun w' hw' => by go_simp) ?_
      simp only [put_lit, List.set_cons_succ, List.set_cons_zero]
      refine wpQuiet_val' (.slice (some ⟨b1, o1, none⟩) k cx) (by rfl) (fun w' hw' => by go_simp) ?_
      simp only [put_lit, List.set_cons_succ, List.set_cons_zero]
      refine wpQuiet_val' (.int .i64 ((j : Nat) + 1 : Int)) (by rfl) (fun w' hw' => by go_simp) ?_
      simp only [put_lit, List.set_cons_succ, List.set_cons_zero]
      refine wpQuiet_val' (.int .i64 (j : Nat)) (by rfl) (fun w' hw' => by go_simp) ?_
      simp only [put_lit, List.set_cons_succ, List.set_cons_zero]
      refine wpQuiet_val' (.pointer (some ⟨b1, o1 + j, none⟩)) (by rfl) (fun w' hw' => by go_simp) ?_
      simp only [put_lit, List.set_cons_succ, List.set_cons_zero]
      refine wpQuiet_val' (.int .i64 (y1 : Nat)) (by rfl) (fun w' hw' => by have e0 := (hw'.cell (p := ⟨b1, o1 + j, none⟩) hbr).trans hc1; go_simp) ?_
      simp only [put_lit, List.set_cons_succ, List.set_cons_zero]
      refine wpQuiet_val' (.slice (some ⟨b1, o1, none⟩) k cx) (by rfl) (fun w' hw' => by go_simp) ?_
      simp only [put_lit, List.set_cons_succ, List.set_cons_zero]
      refine wpQuiet_val' (.int .i64 ((j : Nat) + 1 : Int)) (by rfl) (fun w' hw' => by go_simp) ?_
      simp only [put_lit, List.set_cons_succ, List.set_cons_zero]
      refine wpQuiet_val' (.pointer (some ⟨b1, o1 + (j + 1), none⟩)) (by rfl) (fun w' hw' => by go_simp) ?_
      simp only [put_lit, List.set_cons_succ, List.set_cons_zero]
      refine wpQuiet_val' (.int .i64 (y2 : Nat)) (by rfl) (fun w' hw' => by have e0 := (hw'.cell (p := ⟨b1, o1 + (j + 1), none⟩) hbr).trans hc2; go_simp) ?_
      simp only [put_lit, List.set_cons_succ, List.set_cons_zero]
      refine wpQuiet_call' 76 #[.slice A v c, .int .i64 (y1 : Nat), .int .i64 (y2 : Nat)] (.int .i64 g) (by rfl) (fun w' hw' => by go_simp) (fun w' hw' => HC.out w' hw') ?_
      simp only [put_lit, List.set_cons_succ, List.set_cons_zero]
      refine wpQuiet_val' (.int .i64 (if g < strTo W p j then g else strTo W p j)) (by rfl) (fun w' hw' => by go_simp) ?_
      simp only [put_lit, List.set_cons_succ, List.set_cons_zero]
      refine wpQuiet_val' (.int .i64 (if g < strTo W p j then g else strTo W p j)) (by rfl) (fun w' hw' => by go_simp) ?_
      simp only [put_lit, List.set_cons_succ, List.set_cons_zero]
      refine wpQuiet_nil ?_
      intro w9 hb9
      go_wp2
      go_roundw
      case rel => exact ⟨j + 1, by omega, by go_num, by rw [hst2.out], hbel.trans (hb9.mono hbel.size)⟩
      case measure => simp [intOf]; omega
    · obtain rfl : k = j + 1 := by omega
      go_wp2
      go_ret
      refine ⟨?_, hbel⟩
      rw [strN, HPL.out]; rfl
end Go.Proofs.Ytejijddfepgnkaa
