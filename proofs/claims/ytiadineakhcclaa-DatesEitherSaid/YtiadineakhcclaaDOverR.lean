/-
  The reference: Overload.
-/
import Derived.Test.YtiadineakhcclaaDOver
namespace Go.Proofs.Ytiadineakhcclaa
open Go.RowKit Go.Deep
set_option linter.unusedVariables false
set_option linter.unusedSimpArgs false

set_option maxRecDepth 100000 in
set_option maxHeartbeats 1600000 in
theorem refOverload_none (A : Option Addr) (n c : Nat) (L : List J4) (w : World) (hn : L.length = n) (hL : JobsOk L) (hA : JobsA w w.heap.size A L) (hd : delN L (planN false L) ≤ 0) :
    Calls Try.prog 36 #[.slice A n c] w fun e w' => e = .returned (.tuple #[.agg #[.int .i64 0, .int .i64 0], .int .i64 4]) ∧ Below w.heap.size w w' := by
  have h8 : n ≤ 8 := by rw [← hn]; exact hL.le
  obtain ⟨w1, hw1⟩ : ∃ w1, w1 = w.alloc (.cells #[.int .i64 0, .int .i64 0] 64) := ⟨_, rfl⟩
  have hbx : w1.heap[w.heap.size]? = some (.cells #[.int .i64 0, .int .i64 0] 64 (0, 0)) := by rw [hw1]; exact alloc_new _ _ _ rfl
  have HB01 : Hid (Below w.heap.size w w1) := by subst hw1; exact (Below.refl _ _).alloc (Nat.le_refl _) _
  have HQ : Hid (∀ w', Below w1.heap.size w1 w' → w'.cell? ⟨w.heap.size, 0, none⟩ = some (.int .i64 0) ∧ w'.cell? ⟨w.heap.size, 1, none⟩ = some (.int .i64 0) ∧ w'.frozen? ⟨w.heap.size, 0, none⟩ = false ∧ w'.frozen? ⟨w.heap.size, 1, none⟩ = false ∧ w.heap.size < w'.heap.size) := fun w' hb => by
    have h := (hb.block _ (lt_of_block hbx)).trans hbx
    exact ⟨blk_cell h 0, blk_cell h 1, blk_free h 0, blk_free h 1, lt_of_block h⟩
  have HDL := hide (refDelay_any A n c L w1 hn hL (hA.next HB01.out))
  have HLO := hide (fun (a b : Nat) (ha : a ≤ 1000) (hbb : b ≤ 1000) w' (hb : Below w1.heap.size w1 w') => refLoaded_any A n c L a b w' hn hL ha hbb ((hA.next HB01.out).next hb))
  generalize delN L (planN false L) = dl at *
  have hdd : decide (dl ≤ 0) = true := decide_eq_true hd
  have HW := hide hw1
  clear hA hn hbx hw1 hd
  go_enter Try.func36, Try.ntmps36
  go_upto_region 1 with (fail)
  rw [← HW.out]
  go_wp2_with (first
    | (go_at_call 38; refine (HDL.out).mono ?_; rintro e w4 ⟨rfl, h5⟩; have H5 := hide h5; obtain ⟨y0, y1, y2, y3, y4⟩ := HQ.out _ h5; clear h5))
  exact bodyPost_ret (v := .tuple #[.agg #[.int .i64 0, .int .i64 0], .int .i64 4]) (by simp [results, Try.results36, go_sem, y0, y1, y2, y3, y4]) rfl ⟨rfl, (HB01.out.trans (H5.out.mono HB01.out.size)).setCell (Nat.le_refl _) _ |>.setCell (Nat.le_refl _) _⟩
set_option maxRecDepth 100000 in
set_option maxHeartbeats 3200000 in
theorem refOverload_some (A : Option Addr) (n c : Nat) (L : List J4) (w : World) (hn : L.length = n) (hL : JobsOk L) (hA : JobsA w w.heap.size A L) (hd : 0 < delN L (planN false L)) :
    Calls Try.prog 36 #[.slice A n c] w (OvRes L w) := by
  have h8 : n ≤ 8 := by rw [← hn]; exact hL.le
  obtain ⟨w1, hw1⟩ : ∃ w1, w1 = w.alloc (.cells #[.int .i64 0, .int .i64 0] 64) := ⟨_, rfl⟩
  have hbx : w1.heap[w.heap.size]? = some (.cells #[.int .i64 0, .int .i64 0] 64 (0, 0)) := by rw [hw1]; exact alloc_new _ _ _ rfl
  have HB01 : Hid (Below w.heap.size w w1) := by subst hw1; exact (Below.refl _ _).alloc (Nat.le_refl _) _
  have HQ : Hid (∀ w', Below w1.heap.size w1 w' → w'.cell? ⟨w.heap.size, 0, none⟩ = some (.int .i64 0) ∧ w'.cell? ⟨w.heap.size, 1, none⟩ = some (.int .i64 0) ∧ w'.frozen? ⟨w.heap.size, 0, none⟩ = false ∧ w'.frozen? ⟨w.heap.size, 1, none⟩ = false ∧ w.heap.size < w'.heap.size) := fun w' hb => by
    have h := (hb.block _ (lt_of_block hbx)).trans hbx
    exact ⟨blk_cell h 0, blk_cell h 1, blk_free h 0, blk_free h 1, lt_of_block h⟩
  have HDL := hide (refDelay_any A n c L w1 hn hL (hA.next HB01.out))
  have HLO := hide (fun (a b : Nat) (ha : a ≤ 1000) (hbb : b ≤ 1000) w' (hb : Below w1.heap.size w1 w') => refLoaded_any A n c L a b w' hn hL ha hbb ((hA.next HB01.out).next hb))
  have HSO := hide (over_some hL hd)
  have HJ := hide (fun w' (hb : Below w1.heap.size w1 w') => (hA.next HB01.out).next hb)
  have HN := hide hn
  have HL := hide hL
  generalize delN L (planN false L) = dl at *
  have hdd : decide (dl ≤ 0) = false := decide_eq_false (by omega)
  have HW := hide hw1
  clear hA hn hbx hw1 hd hL
  go_enter Try.func36, Try.ntmps36
  go_upto_region 1 with (fail)
  rw [← HW.out]
  go_wp2_with (first
    | (go_at_call 38; refine (HDL.out).mono ?_; rintro e w4 ⟨rfl, h5⟩; have H5 := hide h5; obtain ⟨y0, y1, y2, y3, y4⟩ := HQ.out _ h5; clear h5))
  go_loopw [4] (fun v5 wr => ∃ a : Nat, a ≤ 100 ∧ v5 = .int .i64 a ∧ Hid (∀ a' b' : Int, 0 ≤ a' → a' < a → a' ≤ b' → b' ≤ 400 → loadN L a' b' ≤ b' - a') ∧ Below w1.heap.size w1 wr) (fun v5 _ => 101 - (intOf v5).toNat)
  case atStart => exact ⟨0, by omega, rfl, fun a' b' h1 h2 => by omega, H5.out⟩
  case round =>
    obtain ⟨a, ha, rfl, HNA, hba⟩ := hrel
    obtain ⟨wa, rfl⟩ : ∃ wa : World, wa = wr := ⟨_, rfl⟩
    have HBA := hide hba
    clear hba
    have da : decide ((a : Int) ≤ 400) = true := decide_eq_true (by omega)
    have da2 : decide (a ≤ 400) = true := decide_eq_true (by omega)
    go_wp2
    go_loopw [5] (fun v6 wr => ∃ b : Nat, a ≤ b ∧ b ≤ 401 ∧ v6 = .int .i64 b ∧ Hid (∀ b' : Int, (a : Int) ≤ b' → b' < b → loadN L a b' ≤ b' - a) ∧ Below w1.heap.size w1 wr) (fun v6 _ => 401 - (intOf v6).toNat)
    case atStart => exact ⟨a, Nat.le_refl _, by omega, rfl, fun b' h1 h2 => by omega, HBA.out⟩
    case round =>
      obtain ⟨b, hab, hb4, rfl, HNB, hbb⟩ := hrel
      obtain ⟨w2, rfl⟩ : ∃ w2 : World, w2 = wr := ⟨_, rfl⟩
      have HB2 := hide hbb
      clear hbb
      by_cases h4 : b ≤ 400
      · have d4 : decide ((b : Int) ≤ 400) = true := decide_eq_true (by omega)
        have d5 : decide (b ≤ 400) = true := decide_eq_true h4
        have HL2 := hide (HLO.out a b (by omega) (by omega) _ HB2.out)
        by_cases hq : (b : Int) - a < loadN L a b
        · rw [decide_eq_true hq] at HL2
          have HOV : Hid (OvP L a b) := ⟨by omega, by omega, by omega, hq, fun a' b' g1 g2 g3 g4 => by
            rcases g4 with g4 | ⟨g4, g5⟩
            · have := HNA.out a' b' g1 g4 g2 g3; omega
            · subst g4; have := HNB.out b' g2 g5; omega⟩
          clear hq
          go_wp2_with (go_at_call 65; refine (HL2.out).mono ?_; rintro e w9 ⟨rfl, hb9⟩; have HB9 := hide (HB2.out.trans (hb9.mono HB2.out.size)); obtain ⟨z0, z1, z2, z3, z4⟩ := HQ.out _ HB9.out; clear hb9)
          exact bodyPost_ret (v := .tuple #[.agg #[.int .i64 a, .int .i64 b], .int .i64 0]) (by simp [results, Try.results36, go_sem, z0, z1, z2, z3, z4]) rfl ⟨a, b, HOV.out, rfl, (HB01.out.trans (HB9.out.mono HB01.out.size)).setCell (Nat.le_refl _) _ |>.setCell (Nat.le_refl _) _⟩
        · rw [decide_eq_false hq] at HL2
          have HNB2 : Hid (∀ b' : Int, (a : Int) ≤ b' → b' < (b + 1 : Nat) → loadN L a b' ≤ b' - a) := fun b' g1 g2 => by
            by_cases e : b' = (b : Int)
            · subst e; omega
            · exact HNB.out b' g1 (by omega)
          clear hq
          go_wp2_with (go_at_call 65; refine (HL2.out).mono ?_; rintro e w9 ⟨rfl, hb9⟩; have HB9 := hide (HB2.out.trans (hb9.mono HB2.out.size)); clear hb9)
          go_roundw
          case rel => exact ⟨b + 1, by omega, by omega, by go_num, HNB2, HB9.out⟩
          case measure => simp [intOf] <;> omega
      · have d4 : decide ((b : Int) ≤ 400) = false := decide_eq_false (by omega)
        have d5 : decide (b ≤ 400) = false := decide_eq_false h4
        have HNA2 : Hid (∀ a' b' : Int, 0 ≤ a' → a' < (a + 1 : Nat) → a' ≤ b' → b' ≤ 400 → loadN L a' b' ≤ b' - a') := fun a' b' h1 h2 h3 h6 => by
          by_cases e : a' = (a : Int)
          · subst e; exact HNB.out b' h3 (by omega)
          · exact HNA.out a' b' h1 (by omega) h3 h6
        have ha2 : a + 1 ≤ 100 := by
          obtain ⟨a0, b0, g1, g2, g3, g4⟩ := HSO.out
          refine Classical.byContradiction fun h => ?_
          have g5 := HNA2.out a0 b0 (by omega) (by omega) (by omega) (by omega)
          omega
        go_wp2
        go_roundw
        case rel => exact ⟨a + 1, ha2, by go_num, HNA2, HB2.out⟩
        case measure => simp [intOf] <;> omega
end Go.Proofs.Ytiadineakhcclaa
