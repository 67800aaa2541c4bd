/-
  slices.SortStableFunc of at most 8 places with the function corrody/corrodytop.TopRounds-1.
-/
import Derived.Test.YtgognkofnegobaaProg
import Derived.Test.YtgognkofnegobaaSortP
import Derived.RegionTactic
import Derived.ChangeAlike
namespace Go.Proofs.Ytgognkofnegobaa
open Go.RowKit Go.Deep
set_option linter.unusedVariables false
set_option linter.unusedSimpArgs false

def Post_TSort (key : Nat → Int) (s0 : Nat → Nat) (n g c : Nat) (w : World) (e : Ending) (w' : World) : Prop :=
  ∃ s : Nat → Nat, Sorted0 key s0 s n n ∧ RowO w' g n c 3 (fun k => .int .i64 (s k : Nat)) ∧ w.grownBy w' (some g) ∧ e = .returned (.tuple #[])
set_option maxRecDepth 100000 in
set_option maxHeartbeats 1600000 in
theorem insertion_TSort (caps : Array Value) (key : Nat → Int) (cv : Nat → Nat → Int) (m g n c : Nat) (s0 : Nat → Nat) (w : World) (hcv : ∀ a b, cv a b < 0 ↔ key a < key b) (hm8 : m ≤ 8) (hn8 : n ≤ 8) (hlow : ∀ k, k < n → s0 k < m) (hasc : ∀ a b, a < b → b < n → s0 a < s0 b)
    (hC : ∀ (w' : World) (a b : Nat), w.grownBy w' (some g) → a < m → b < m → Calls Try.prog 27 (#[.int .i64 (a : Nat), .int .i64 (b : Nat)] ++ caps) w' fun e w'' => e = .returned (.int .i64 (cv a b)) ∧ ∃ q, w'' = w'.drewN q)
    (hR : RowO w g n c 3 (fun k => .int .i64 (s0 k : Nat))) :
    Calls Try.prog 76 #[.slice (some ⟨g, 0, none⟩) n c, .int .i64 0, .int .i64 (n : Nat), .func (.func 27) #[] caps] w (Post_TSort key s0 n g c w) := by
  have HR := hide hR
  have HLOW := hide hlow
  have HASC := hide hasc
  have HCVV := hide hcv
  have HCM := hide hC
  have HG0 : Hid (w.grownBy w (some g)) := ⟨rfl, rfl, rfl, Nat.le_refl _, fun _ _ _ => rfl⟩
  have HS0 : Hid (n = 0 ∨ Sorted0 key s0 s0 n 1) := by
    by_cases e : n = 0
    · exact .inl e
    · exact .inr ⟨by omega, fun k hk => ⟨k, hk, rfl⟩, fun k _ _ => rfl, fun a b h1 h2 => by omega⟩
  clear hlow hasc hC hR hcv
  go_enter Try.func76, Try.ntmps76
  go_wp2
  go_loopw [8] (fun v8 wr => ∃ (i : Nat) (s : Nat → Nat), 1 ≤ i ∧ (i ≤ n ∨ i = 1 ∧ n = 0) ∧ v8 = .int .i64 i ∧ Hid (n = 0 ∨ Sorted0 key s0 s n i) ∧ Hid (RowO wr g n c 3 (fun k => .int .i64 (s k : Nat))) ∧ Hid (w.grownBy wr (some g))) (fun v8 _ => n + 1 - (intOf v8).toNat)
  case atStart => exact ⟨1, s0, Nat.le_refl _, by omega, rfl, HS0, HR, HG0⟩
  case round =>
    obtain ⟨i, s, hi1, hi2, rfl, HS, HRi, HG⟩ := hrel
    obtain ⟨w1, rfl⟩ : ∃ w1 : World, w1 = wr := ⟨_, rfl⟩
    by_cases hlt : i < n
    · have hin : (i : Int) < (n : Int) := by omega
      have HSI : Hid (Sorted0 key s0 s n i) := by rcases HS.out with h | h; omega; exact h
      have HRS : Hid (RowO w1 g n c 3 (fun k => .int .i64 (movF s i i k : Nat))) := HRi.out.congr fun k hk => by rw [movF_self]
      go_wp2
      go_loopw [9] (fun v9 wr => ∃ j : Nat, j ≤ i ∧ v9 = .int .i64 j ∧ Hid (∀ k, j ≤ k → k < i → key (s i) < key (s k)) ∧ Hid (RowO wr g n c 3 (fun k => .int .i64 (movF s i j k : Nat))) ∧ Hid (w.grownBy wr (some g))) (fun v9 _ => (intOf v9).toNat)
      case atStart => exact ⟨i, Nat.le_refl _, rfl, fun k h1 h2 => by omega, HRS, HG⟩
      case round =>
        obtain ⟨j, hj, rfl, HGT, HRj, HGj⟩ := hrel
        obtain ⟨w2, rfl⟩ : ∃ w2 : World, w2 = wr := ⟨_, rfl⟩
        have HGD : Hid (∀ q, w.grownBy (w2.drewN q) (some g)) := fun q => ⟨HGj.out.os, HGj.out.tape, HGj.out.output, HGj.out.size, HGj.out.block⟩
        by_cases hj0 : j = 0
        · have hjd : decide ((0 : Int) < (j : Int)) = false := decide_eq_false (by omega)
          have hjd2 : decide (0 < j) = false := decide_eq_false (by omega)
          have HNX : Hid (n = 0 ∨ Sorted0 key s0 (movF s i j) n (i + 1)) := .inr (HSI.out.next hlt HASC.out hj HGT.out (.inl hj0))
          clear hj0
          go_wp2
          go_quiet (fail)
          go_wp2
          go_roundw
          case rel => exact ⟨i + 1, movF s i j, by omega, by omega, by go_num, HNX, hide (HRj.out.of_block (w' := w2.drewN _) rfl), hide (HGD.out _)⟩
          case measure => simp [intOf] <;> omega
        · obtain ⟨j1, hja, hjb⟩ : ∃ j1, j ≤ j1 + 1 ∧ j1 + 1 ≤ j := ⟨j - 1, by omega, by omega⟩
          have hjd : decide ((0 : Int) < (j : Int)) = true := decide_eq_true (by omega)
          have hjd2 : decide (0 < j) = true := decide_eq_true (by omega)
          have hjd3 : 0 < j := by omega
          have hjn : (j : Int) < (n : Int) := by omega
          have hj1n : (j1 : Int) < (n : Int) := by omega
          obtain ⟨x, hx⟩ : ∃ x, s i = x := ⟨_, rfl⟩
          obtain ⟨y, hy⟩ : ∃ y, s j1 = y := ⟨_, rfl⟩
          have hc1 : w2.cell? ⟨g, j, none⟩ = some (.int .i64 (x : Nat)) := by
            have h9 := HRj.out.cell (k := j) (by omega)
            rw [h9]
            show some (Value.int .i64 ((movF s i j j : Nat) : Int)) = _
            unfold movF
            rw [if_neg (Nat.lt_irrefl _), if_pos rfl, hx]
          have hc2 : w2.cell? ⟨g, j1, none⟩ = some (.int .i64 (y : Nat)) := by
            have h9 := HRj.out.cell (k := j1) (by omega)
            rw [h9]
            show some (Value.int .i64 ((movF s i j j1 : Nat) : Int)) = _
            unfold movF
            rw [if_pos (by omega), hy]
          have hf1 := HRj.out.free j
          have hf2 := HRj.out.free j1
          have hgl := HRj.out.lt
          have hxm : x < m := by rw [← hx, HSI.out.high i (Nat.le_refl _) hlt]; exact HLOW.out i hlt
          have hym : y < m := by
            obtain ⟨q, hq, e⟩ := HSI.out.low j1 (by omega)
            rw [← hy, e]; exact HLOW.out q (by omega)
          have HC2 := hide (fun q => HCM.out (w2.drewN q) x y (HGD.out q) hxm hym)
          obtain ⟨cw, hcw⟩ : ∃ cw, cv x y = cw := ⟨_, rfl⟩
          have HCV : Hid (cw < 0 ↔ key x < key y) := by rw [← hcw]; exact HCVV.out x y
          rw [hcw] at HC2
          have HX := hide hx
          have HY := hide hy
          clear hcw hx hy hj0
          by_cases hq : cw < 0
          · have hqd : decide (cw < 0) = true := decide_eq_true hq
            have HGT2 : Hid (∀ k, j1 ≤ k → k < i → key (s i) < key (s k)) := fun k h1 h2 => by
              by_cases e : k = j1
              · subst e; rw [HX.out, HY.out]; exact HCV.out.1 hq
              · exact HGT.out k (by omega) h2
            clear hq
            have hs4 : IntKind.i64.wrap ((j : Int) - 1) = (j1 : Int) := by rw [IntKind.wrap_i64]; omega
            go_wp2
            go_quiet ((go_at_call 27; exact Calls.quiet_of (HC2.out _)))
            go_wp2
            go_region
            go_wp2
            clear hs4
            go_roundw
            case rel =>
              refine ⟨j1, by omega, by congr 1, HGT2, hide ((((HRj.out.of_block (w' := w2.drewN _) rfl).set (i := j) (by omega) (.int .i64 (y : Nat))).set (i := j1) (by omega) (.int .i64 (x : Nat))).congr fun k hk => ?_), hide ?_⟩
              · have hjj : j = j1 + 1 := by omega
                have h9 := movF_swap s i j1 k (by omega)
                have h10 : movF s i (j1 + 1) (j1 + 1) = x := by unfold movF; rw [if_neg (Nat.lt_irrefl _), if_pos rfl]; exact HX.out
                have h11 : movF s i (j1 + 1) j1 = y := by unfold movF; rw [if_pos (by omega)]; exact HY.out
                rw [h10, h11] at h9
                show (if k = j1 then Value.int .i64 (x : Nat) else if k = j then Value.int .i64 (y : Nat) else Value.int .i64 (movF s i j k : Nat)) = Value.int .i64 (movF s i j1 k : Nat)
                rw [← h9, hjj]
                by_cases e1 : k = j1
                · rw [if_pos e1, if_pos e1]
                · rw [if_neg e1, if_neg e1]
                  by_cases e2 : k = j1 + 1
                  · rw [if_pos e2, if_pos e2]
                  · rw [if_neg e2, if_neg e2]
              · exact grown_set (grown_set (HGD.out _) _ _) _ _
            case measure => simp [intOf] <;> omega
          · have hqd : decide (cw < 0) = false := decide_eq_false hq
            have HNX : Hid (n = 0 ∨ Sorted0 key s0 (movF s i j) n (i + 1)) := .inr (HSI.out.next hlt HASC.out hj HGT.out (.inr (by
              have h9 : ¬ key x < key y := fun h => hq (HCV.out.2 h)
              show key (s (j - 1)) ≤ key (s i)
              rw [show j - 1 = j1 by omega, HX.out, HY.out]
              omega)))
            clear hq
            have hs4 : IntKind.i64.wrap ((j : Int) - 1) = (j1 : Int) := by rw [IntKind.wrap_i64]; omega
            go_wp2
            go_quiet ((go_at_call 27; exact Calls.quiet_of (HC2.out _)))
            go_wp2
            clear hs4
            go_roundw
            case rel => exact ⟨i + 1, movF s i j, by omega, by omega, by go_num, HNX, hide (HRj.out.of_block (w' := w2.drewN _) rfl), hide (HGD.out _)⟩
            case measure => simp [intOf] <;> omega
    · have HSN : Hid (Sorted0 key s0 s n n) := by
        rcases HS.out with h | h
        · subst h; exact ⟨Nat.le_refl _, fun k hk => by omega, fun k _ hk => by omega, fun a b _ hb => by omega⟩
        · obtain rfl : i = n := by have := h.le; omega
          exact h
      have hnl : ¬ (i : Int) < (n : Int) := by omega
      go_wp2
      go_end0
      exact ⟨s, HSN.out, HRi.out, HG.out, rfl⟩
set_option maxHeartbeats 1600000 in
theorem stable_TSort (caps : Array Value) (key : Nat → Int) (cv : Nat → Nat → Int) (m g n c : Nat) (s0 : Nat → Nat) (w : World) (hcv : ∀ a b, cv a b < 0 ↔ key a < key b) (hm8 : m ≤ 8) (hn8 : n ≤ 8) (hlow : ∀ k, k < n → s0 k < m) (hasc : ∀ a b, a < b → b < n → s0 a < s0 b)
    (hC : ∀ (w' : World) (a b : Nat), w.grownBy w' (some g) → a < m → b < m → Calls Try.prog 27 (#[.int .i64 (a : Nat), .int .i64 (b : Nat)] ++ caps) w' fun e w'' => e = .returned (.int .i64 (cv a b)) ∧ ∃ q, w'' = w'.drewN q)
    (hR : RowO w g n c 3 (fun k => .int .i64 (s0 k : Nat))) :
    Calls Try.prog 48 #[.slice (some ⟨g, 0, none⟩) n c, .int .i64 (n : Nat), .func (.func 27) #[] caps] w (Post_TSort key s0 n g c w) := by
  have HI := hide (insertion_TSort caps key cv m g n c s0 w hcv hm8 hn8 hlow hasc hC hR)
  have d1 : decide ((20 : Int) ≤ (n : Int)) = false := decide_eq_false (by omega)
  have d2 : decide ((20 : Int) < (n : Int)) = false := decide_eq_false (by omega)
  have d3 : decide (20 ≤ n) = false := decide_eq_false (by omega)
  have d4 : decide (20 < n) = false := decide_eq_false (by omega)
  have h20 : n < 20 := by omega
  clear hlow hasc hC hR hcv
  go_enter Try.func48, Try.ntmps48
  go_wp2
  go_loopw [7, 8] (fun v7 v8 wr => v7 = .int .i64 0 ∧ v8 = .int .i64 20 ∧ wr = w) (fun _ _ _ => 0)
  case atStart => exact ⟨rfl, rfl, rfl⟩
  case round =>
    obtain ⟨rfl, rfl, rfl⟩ := hrel
    go_wp2_with (go_at_call 76; refine (HI.out).mono ?_; rintro e w1 ⟨s, h1, h2, h3, rfl⟩; have H1 := hide h1; have H2 := hide h2; have H3 := hide h3; clear h1 h2 h3)
    go_loopw [6] (fun v6 wr => v6 = .int .i64 20 ∧ wr = w1) (fun _ _ => 0)
    case atStart => exact ⟨rfl, rfl⟩
    case round =>
      obtain ⟨rfl, rfl⟩ := hrel
      go_wp2
      go_end0
      exact ⟨s, H1.out, H2.out, H3.out, rfl⟩
set_option maxHeartbeats 1600000 in
theorem sortStable_TSort (caps : Array Value) (key : Nat → Int) (cv : Nat → Nat → Int) (m g n c : Nat) (s0 : Nat → Nat) (w : World) (hcv : ∀ a b, cv a b < 0 ↔ key a < key b) (hm8 : m ≤ 8) (hn8 : n ≤ 8) (hlow : ∀ k, k < n → s0 k < m) (hasc : ∀ a b, a < b → b < n → s0 a < s0 b)
    (hC : ∀ (w' : World) (a b : Nat), w.grownBy w' (some g) → a < m → b < m → Calls Try.prog 27 (#[.int .i64 (a : Nat), .int .i64 (b : Nat)] ++ caps) w' fun e w'' => e = .returned (.int .i64 (cv a b)) ∧ ∃ q, w'' = w'.drewN q)
    (hR : RowO w g n c 3 (fun k => .int .i64 (s0 k : Nat))) :
    Calls Try.prog 26 #[.slice (some ⟨g, 0, none⟩) n c, .func (.func 27) #[] caps] w (Post_TSort key s0 n g c w) := by
  have HI := hide (stable_TSort caps key cv m g n c s0 w hcv hm8 hn8 hlow hasc hC hR)
  clear hlow hasc hC hR hcv
  go_enter Try.func26, Try.ntmps26
  go_wp2_with (go_at_call 48; refine (HI.out).mono ?_; rintro e w1 ⟨s, h1, h2, h3, rfl⟩; have H1 := hide h1; have H2 := hide h2; have H3 := hide h3; clear h1 h2 h3)
  go_end0
  exact ⟨s, H1.out, H2.out, H3.out, rfl⟩
/-! Nothing to sort. -/
set_option maxHeartbeats 400000 in
theorem insertion0_TSort (caps : Array Value) (X : Option Addr) (c : Nat) (w : World) :
    Calls Try.prog 76 #[.slice X 0 c, .int .i64 0, .int .i64 0, .func (.func 27) #[] caps] w fun e w' => e = .returned (.tuple #[]) ∧ w = w' := by
  go_enter Try.func76, Try.ntmps76
  go_wp2
  go_loopw [8] (fun v8 wr => v8 = .int .i64 1 ∧ wr = w) (fun v8 _ => 0)
  case atStart => exact ⟨rfl, rfl⟩
  case round =>
    obtain ⟨rfl, rfl⟩ := hrel
    go_wp2
    go_end0
    exact ⟨rfl, rfl⟩
set_option maxHeartbeats 400000 in
theorem stable0_TSort (caps : Array Value) (X : Option Addr) (c : Nat) (w : World) :
    Calls Try.prog 48 #[.slice X 0 c, .int .i64 0, .func (.func 27) #[] caps] w fun e w' => e = .returned (.tuple #[]) ∧ w = w' := by
  have HI := hide (insertion0_TSort caps X c w)
  go_enter Try.func48, Try.ntmps48
  go_wp2
  go_loopw [7, 8] (fun v7 v8 wr => v7 = .int .i64 0 ∧ v8 = .int .i64 20 ∧ wr = w) (fun _ _ _ => 0)
  case atStart => exact ⟨rfl, rfl, rfl⟩
  case round =>
    obtain ⟨rfl, rfl, rfl⟩ := hrel
    go_wp2_with (go_at_call 76; refine (HI.out).mono ?_; rintro e w1 ⟨rfl, rfl⟩)
    obtain ⟨w1, rfl⟩ : ∃ w1 : World, w1 = wr := ⟨_, rfl⟩
    go_loopw [6] (fun v6 wr => v6 = .int .i64 20 ∧ wr = w1) (fun _ _ => 0)
    case atStart => exact ⟨rfl, rfl⟩
    case round =>
      obtain ⟨rfl, rfl⟩ := hrel
      go_wp2
      go_end0
      exact ⟨rfl, rfl⟩
set_option maxHeartbeats 400000 in
theorem sortStable0_TSort (caps : Array Value) (X : Option Addr) (c : Nat) (w : World) :
    Calls Try.prog 26 #[.slice X 0 c, .func (.func 27) #[] caps] w fun e w' => e = .returned (.tuple #[]) ∧ w = w' := by
  have HI := hide (stable0_TSort caps X c w)
  go_enter Try.func26, Try.ntmps26
  go_wp2_with (go_at_call 48; refine (HI.out).mono ?_; rintro e w1 ⟨rfl, rfl⟩)
  go_end0
  exact ⟨rfl, rfl⟩
end Go.Proofs.Ytgognkofnegobaa
