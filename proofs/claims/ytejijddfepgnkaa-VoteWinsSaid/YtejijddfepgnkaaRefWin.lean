/-
  The reference's Win, by each rule.
-/
import Derived.Test.YtejijddfepgnkaaRefWidth
import Derived.Test.YtejijddfepgnkaaRefKemeny
namespace Go.Proofs.Ytejijddfepgnkaa
open Go.RowKit
set_option linter.unusedVariables false
set_option linter.unusedSimpArgs false

set_option maxHeartbeats 1600000 in
theorem refWin3_any (A : Option Addr) (v n c : Nat) (W : List (List Nat)) (w : World) (hW : BOk W v n) (hA : RowsA w w.heap.size A (upp W)) :
    Calls Try.prog 36 #[.slice A v c, .int .i64 3] w fun e w' => e = .returned (.int .i64 ((kemO W n).getD 0 0 : Nat)) ∧ Below w.heap.size w w' := by
  have HK := hide (refKemeny_any A v n c W w hW hA)
  have hv1 := hW.pos
  have hn1 := hW.npos
  have HL := hide (kemO_spec W n).1.len
  generalize kemO W n = o at *
  obtain ⟨b0, o0, A0, n0, c0, rfl, hb0, hc0, hx0, hle0, hI0⟩ := hA.at_ (k := 0) (by rw [upp_length, hW.len]; exact hv1)
  rw [Nat.add_zero] at hc0
  have hvz : v ≠ 0 := by omega
  have hnz : n ≠ 0 := by omega
  clear hW hA hI0 hx0 hle0
  go_enter Try.func36, Try.ntmps36
  go_wp2_with (go_at_call 29; refine HK.out.mono ?_; rintro e w' ⟨X, cx, rfl, h3, h4, h5⟩; obtain ⟨b, o1, x, rfl, hb, hc, hx⟩ := h4.at_ (k := 0) (by rw [up_length, HL.out]; exact hn1); rw [Nat.add_zero] at hc; obtain rfl : x = ((o.getD 0 0 : Nat) : Int) := (by have := hx.out; rw [up_getD] at this; exact this.symm); have H5 := hide h5; clear h4 h5 hx)
  go_ret
  exact ⟨rfl, H5.out⟩

/-- Candidate a is at least as strong as the first j. -/
def strongTo (W : List (List Nat)) (n a : Nat) : Nat → Bool
  | 0 => true
  | j + 1 => strongTo W n a j && (decide (a = j) || decide (widN W n j a ≤ widN W n a j))
set_option maxRecDepth 100000 in
set_option maxHeartbeats 3200000 in
theorem refWin2_any (A : Option Addr) (v n c : Nat) (W : List (List Nat)) (w : World) (hW : BOk W v n) (hA : RowsA w w.heap.size A (upp W)) :
    Calls Try.prog 36 #[.slice A v c, .int .i64 2] w fun e w' => e = .returned (.int .i64 (fidx n fun a => strongTo W n a n)) ∧ Below w.heap.size w w' := by
  have hv1 := hW.pos
  have hn1 := hW.npos
  have hn5 := hW.nle
  have h9 : W.length ≤ 9 := by rw [hW.len]; exact hW.le
  have HWD := hide (fun (w' : World) (hw' : Below w.heap.size w w') (a b : Nat) (ha : a < n) (hb : b < n) => width_any A v n c a b W w' hW ha hb (hA.next hw'))
  obtain ⟨b0, o0, A0, n0, c0, rfl, hb0, hc0, hx0, hle0, hI0⟩ := hA.at_ (k := 0) (by rw [upp_length, hW.len]; exact hv1)
  rw [upp_getD] at hx0
  obtain rfl : n = n0 := by have := hx0.out; rw [up_length, (hW.rows 0 hv1).len] at this; exact this
  rw [Nat.add_zero] at hc0
  have hvz : v ≠ 0 := by omega
  clear hW hA hI0 hx0 hle0
  obtain ⟨r, hr⟩ : ∃ r, (fidx n fun a => strongTo W n a n) = r := ⟨_, rfl⟩
  rw [hr]
  have HR := hide hr
  clear hr
  go_enter Try.func36, Try.ntmps36
  go_wp2
  go_loopw [34] (fun i wr => ∃ a : Nat, a ≤ n ∧ i = .int .i64 a ∧ Hid (∀ j, j < a → strongTo W n j n = false) ∧ Below w.heap.size w wr) (fun i _ => n - (intOf i).toNat)
  case atStart => exact ⟨0, Nat.zero_le _, rfl, fun j hj => absurd hj (by omega), Below.refl _ _⟩
  case round =>
    obtain ⟨a, ha, rfl, hno, hbel⟩ := hrel
    have HB := hide hbel
    clear hbel
    by_cases hlt : a < n
    · go_wp2_with fail
      obtain ⟨wp, rfl⟩ : ∃ wp : World, wp = wr := ⟨_, rfl⟩
      go_loopw [9, 38] (fun s i wr => ∃ b : Nat, b ≤ n ∧ i = .int .i64 b ∧ s = .bool (strongTo W n a b) ∧ Below w.heap.size w wr) (fun _ i _ => n - (intOf i).toNat)
      case atStart => exact ⟨0, Nat.zero_le _, rfl, rfl, HB.out⟩
      case round =>
        obtain ⟨b, hb, rfl, rfl, hbel2⟩ := hrel
        have HB2 := hide hbel2
        by_cases hltb : b < n
        · have HW1 := hide (HWD.out wr hbel2 a b hlt hltb)
          have HW2 : Hid (∀ w', Below wr.heap.size wr w' → Calls Try.prog 71 #[.slice (some ⟨b0, o0, none⟩) v c, .int .i64 (b : Nat), .int .i64 (a : Nat)] w' fun e w'' => e = .returned (.int .i64 (widN W n b a)) ∧ Below w'.heap.size w' w'') := fun w' hw' => HWD.out w' (hbel2.trans (hw'.mono hbel2.size)) b a hltb hlt
          have hst : strongTo W n a (b + 1) = (strongTo W n a b && (decide (a = b) || decide (widN W n b a ≤ widN W n a b))) := rfl
          obtain ⟨s0, hs0⟩ : ∃ s, strongTo W n a b = s := ⟨_, rfl⟩
          rw [hs0] at hst ⊢
          generalize widN W n a b = x1 at *
          generalize widN W n b a = x2 at *
          have HST := hide hst
          clear hbel2 hs0 hst
          cases s0 with
          | false =>
            go_wp2
            go_roundw
            case rel => exact ⟨b + 1, by omega, by go_num, by rw [HST.out]; rfl, HB2.out⟩
            case measure => simp [intOf]; omega
          | true =>
            by_cases hab : a = b
            · have e4 : ((a : Nat) : Int) = ((b : Nat) : Int) := by omega
              have HAB := hide hab
              clear hab
              go_wp2
              go_roundw
              case rel => exact ⟨b + 1, by omega, by go_num, by rw [HST.out, decide_eq_true HAB.out]; rfl, HB2.out⟩
              case measure => simp [intOf]; omega
            · have e4 : ¬ ((a : Nat) : Int) = ((b : Nat) : Int) := by omega
              have HAB : Hid (¬ a = b) := hab
              have hbq : (((a : Nat) : Int) == ((b : Nat) : Int)) = false := beq_false_of_ne e4
              clear hab
              by_cases hx : x2 ≤ x1
              · have hx' : decide (x2 ≤ x1) = true := decide_eq_true hx
                go_wp2_with (first
                  | (go_at_call 71; with_reducible refine (HW1.out).mono ?_; rintro e w1 ⟨rfl, hb1⟩; have HB3 := hide hb1; clear hb1)
                  | (go_at_call 71; with_reducible refine (HW2.out _ HB3.out).mono ?_; rintro e w2 ⟨rfl, hb1⟩; have HB4 := hide hb1; clear hb1))
                go_roundw
                case rel => exact ⟨b + 1, by omega, by go_num, by rw [HST.out]; simp [hx], (HB2.out.trans (HB3.out.mono HB2.out.size)).trans (HB4.out.mono (by have := HB2.out.size; have := HB3.out.size; omega))⟩
                case measure => simp [intOf]; omega
              · have hx' : decide (x2 ≤ x1) = false := decide_eq_false hx
                go_wp2_with (first
                  | (go_at_call 71; with_reducible refine (HW1.out).mono ?_; rintro e w1 ⟨rfl, hb1⟩; have HB3 := hide hb1; clear hb1)
                  | (go_at_call 71; with_reducible refine (HW2.out _ HB3.out).mono ?_; rintro e w2 ⟨rfl, hb1⟩; have HB4 := hide hb1; clear hb1))
                go_roundw
                case rel => exact ⟨b + 1, by omega, by go_num, by rw [HST.out, decide_eq_false HAB.out, hx']; rfl, (HB2.out.trans (HB3.out.mono HB2.out.size)).trans (HB4.out.mono (by have := HB2.out.size; have := HB3.out.size; omega))⟩
                case measure => simp [intOf]; omega
        · obtain rfl : n = b := by omega
          obtain ⟨s0, hs0⟩ : ∃ s, strongTo W n a n = s := ⟨_, rfl⟩
          rw [hs0]
          have HS0 := hide hs0
          clear hs0 hbel2
          cases s0 with
          | true =>
            go_wp2
            go_ret
            refine ⟨?_, HB2.out⟩
            rw [← HR.out, fidx_found hlt HS0.out (fun j hj => hno.out j hj)]; rfl
          | false =>
            go_wp2
            go_roundw
            case rel =>
              refine ⟨a + 1, by omega, by go_num, fun j hj => ?_, HB2.out⟩
              by_cases e : j = a
              · subst e; exact HS0.out
              · exact hno.out j (by omega)
            case measure => simp [intOf]; omega
    · obtain rfl : n = a := by omega
      go_wp2
      go_ret
      refine ⟨?_, HB.out⟩
      rw [← HR.out, fidx_none (fun j hj => hno.out j hj)]; rfl

/-- The points of candidate a by the first k ballots. -/
def ptsTo (W : List (List Nat)) (n r a : Nat) : Nat → Nat
  | 0 => 0
  | k + 1 => ptsTo W n r a k + if r = 1 then n - 1 - place (W.getD k []) a else if (W.getD k []).getD 0 0 = a then 1 else 0
/-- The first one with the most points, of the first j. -/
def bestTo (f : Nat → Nat) : Nat → Nat × Int
  | 0 => (0, -1)
  | j + 1 => if (bestTo f j).2 < (f j : Int) then (j, (f j : Int)) else bestTo f j
theorem ptsTo_bd (W : List (List Nat)) {n r : Nat} (hn : n ≤ 5) (a : Nat) : ∀ k, ptsTo W n r a k ≤ 5 * k
  | 0 => by simp [ptsTo]
  | k + 1 => by
    have := ptsTo_bd W hn a (r := r) k
    rw [ptsTo]
    split
    · omega
    · split <;> omega
theorem bestTo_bd {f : Nat → Nat} {B : Nat} (hf : ∀ a, f a ≤ B) : ∀ j, (bestTo f j).1 ≤ j ∧ -1 ≤ (bestTo f j).2 ∧ (bestTo f j).2 ≤ B
  | 0 => by simp [bestTo]
  | j + 1 => by
    have h1 := bestTo_bd hf j
    have h2 := hf j
    rw [bestTo]
    split
    · simp only; omega
    · omega

set_option maxRecDepth 100000 in
set_option maxHeartbeats 3200000 in
theorem refWin01_any (A : Option Addr) (v n c r : Nat) (W : List (List Nat)) (w : World) (hr : r ≤ 1) (hW : BOk W v n) (hA : RowsA w w.heap.size A (upp W)) :
    Calls Try.prog 36 #[.slice A v c, .int .i64 (r : Nat)] w fun e w' => e = .returned (.int .i64 ((bestTo (fun a => ptsTo W n r a v) n).1 : Nat)) ∧ w = w' := by
  have hv1 := hW.pos
  have hv9 := hW.le
  have hn1 := hW.npos
  have hn5 := hW.nle
  have hA' := hA
  obtain ⟨b0, o0, A0, n0, c0, rfl, hb0, hc0, hx0, hle0, hI0⟩ := hA.at_ (k := 0) (by rw [upp_length, hW.len]; exact hv1)
  rw [upp_getD] at hx0
  obtain rfl : n = n0 := by have := hx0.out; rw [up_length, (hW.rows 0 hv1).len] at this; exact this
  rw [Nat.add_zero] at hc0
  have hvz : v ≠ 0 := by omega
  have hnz : n ≠ 0 := by omega
  have hr3 : ¬ ((r : Nat) : Int) = 3 := by omega
  have hr2 : ¬ ((r : Nat) : Int) = 2 := by omega
  have HW := hide hW
  have HA := hide hA'
  clear hA hI0 hx0 hle0 hW hA'
  go_enter Try.func36, Try.ntmps36
  go_wp2
  go_loop [11, 12, 63] (fun b m i => ∃ a : Nat, a ≤ n ∧ i = .int .i64 a ∧ b = .int .i64 ((bestTo (fun a => ptsTo W n r a v) a).1 : Nat) ∧ m = .int .i64 ((bestTo (fun a => ptsTo W n r a v) a).2)) (fun _ _ i => n - (intOf i).toNat)
  case atStart => exact ⟨0, Nat.zero_le _, rfl, rfl, rfl⟩
  case round =>
    obtain ⟨a, ha, rfl, rfl, rfl⟩ := hrel
    by_cases hlt : a < n
    · have hbd := bestTo_bd (f := fun a => ptsTo W n r a v) (B := 45) (fun a => by have := ptsTo_bd W hn5 (r := r) a v; omega) a
      have hstep : bestTo (fun a => ptsTo W n r a v) (a + 1) = if (bestTo (fun a => ptsTo W n r a v) a).2 < (ptsTo W n r a v : Int) then (a, (ptsTo W n r a v : Int)) else bestTo (fun a => ptsTo W n r a v) a := rfl
      have HSTEP := hide hstep
      obtain ⟨bp, hbp⟩ : ∃ bp, bestTo (fun a => ptsTo W n r a v) a = bp := ⟨_, rfl⟩
      rw [hbp] at hbd ⊢
      have HBP := hide hbp
      obtain ⟨p1, p2⟩ := bp
      simp only at hbd ⊢
      clear hstep hbp
      go_wp2
      go_loop [14, 68] (fun s i => ∃ k : Nat, k ≤ v ∧ i = .int .i64 k ∧ s = .int .i64 (ptsTo W n r a k : Nat)) (fun _ i => v - (intOf i).toNat)
      case atStart => exact ⟨0, Nat.zero_le _, rfl, rfl⟩
      case round =>
        obtain ⟨k, hk, rfl, rfl⟩ := hrel
        by_cases hkv : k < v
        · obtain ⟨b3, o3, A3, n3, c3, hA3e, hb3, hc3, hx3, hle3, hI3⟩ := HA.out.at_ (k := k) (by rw [upp_length, HW.out.len]; exact hkv)
          injection hA3e with hA3e; injection hA3e with h31 h32
          subst h31; subst h32
          rw [upp_getD] at hI3 hx3
          have hri := HW.out.rows k hkv
          obtain rfl : n = n3 := by have := hx3.out; rw [up_length, hri.len] at this; exact this
          have hst : ptsTo W n r a (k + 1) = ptsTo W n r a k + if r = 1 then n - 1 - place (W.getD k []) a else if (W.getD k []).getD 0 0 = a then 1 else 0 := rfl
          have hpb := ptsTo_bd W hn5 (r := r) a k
          generalize ptsTo W n r a k = s0 at *
          obtain ⟨b4, o4, x4, rfl, hb4, hc4, hx4⟩ := hI3.at_ (k := 0) (by rw [up_length, hri.len]; omega)
          rw [Nat.add_zero] at hc4
          rw [up_getD] at hx4
          have e4 := hx4.out
          have HC1 := hide ((rank_any (some ⟨b4, o4, none⟩) n c3 _ (up (W.getD k [])) (a : Int) w (by rw [up_length, hri.len]) (by omega) hI3).mono fun e w' h => (show e = .returned (.int .i64 (place (W.getD k []) a)) ∧ w = w' from ⟨by rw [h.1, idx_up_mem ((hri.mem a).2 hlt)], h.2⟩))
          have hpl := (place_lt ((hri.mem a).2 hlt)).1
          rw [hri.len] at hpl
          generalize place (W.getD k []) a = pl at *
          generalize (W.getD k []).getD 0 0 = y4 at *
          subst e4
          have HST := hide hst
          clear hx3 hx4 hri hI3 hst
          by_cases h1 : r = 1
          · have hr1 : (((r : Nat) : Int) == 1) = true := by rw [h1]; rfl
            have HH := hide h1
            clear h1
            go_wp2_with (go_at_call 68; refine HC1.out.mono ?_; rintro e w' ⟨rfl, rfl⟩)
            go_round
            case rel => exact ⟨k + 1, by omega, by go_num, by rw [HST.out, if_pos HH.out]; go_num⟩
            case measure => simp [intOf]; omega
          · have hr1 : (((r : Nat) : Int) == 1) = false := beq_false_of_ne (by omega)
            have HH : Hid (¬ r = 1) := h1
            clear h1
            by_cases h2 : y4 = a
            · have e5 : ((y4 : Nat) : Int) = ((a : Nat) : Int) := by omega
              have HH2 := hide h2
              clear h2
              go_wp2
              go_round
              case rel => exact ⟨k + 1, by omega, by go_num, by rw [HST.out, if_neg HH.out, if_pos HH2.out]; go_num⟩
              case measure => simp [intOf]; omega
            · have e5 : ¬ ((y4 : Nat) : Int) = ((a : Nat) : Int) := by omega
              have HH2 : Hid (¬ y4 = a) := h2
              clear h2
              go_wp2
              go_round
              case rel => exact ⟨k + 1, by omega, by go_num, by rw [HST.out, if_neg HH.out, if_neg HH2.out]; rfl⟩
              case measure => simp [intOf]; omega
        · obtain rfl : v = k := by omega
          have hpb := ptsTo_bd W hn5 (r := r) a v
          generalize hpt : ptsTo W n r a v = t at *
          by_cases hgt : p2 < (t : Int)
          · have HG := hide hgt
            have HPT := hide hpt
            clear hpt
            go_wp2
            exact ⟨⟨_, _, _, _, _, _, ⟨a + 1, by omega, by go_num, by rw [HSTEP.out, HBP.out, if_pos HG.out], by rw [HSTEP.out, HBP.out, if_pos HG.out]⟩, rfl, rfl, rfl, rfl, rfl, rfl⟩, by simp [intOf]; omega⟩
          · have HG : Hid (¬ p2 < (t : Int)) := hgt
            have HPT := hide hpt
            clear hpt
            go_wp2
            exact ⟨⟨_, _, _, _, _, _, ⟨a + 1, by omega, by go_num, by rw [HSTEP.out, HBP.out, if_neg (show ¬ _ < _ from Int.not_lt.2 HG.out)], by rw [HSTEP.out, HBP.out, if_neg (show ¬ _ < _ from Int.not_lt.2 HG.out)]⟩, rfl, rfl, rfl, rfl, rfl, rfl⟩, by simp [intOf]; omega⟩
    · obtain rfl : n = a := by omega
      go_wp2
      go_ret
      exact ⟨rfl, rfl⟩
end Go.Proofs.Ytejijddfepgnkaa
