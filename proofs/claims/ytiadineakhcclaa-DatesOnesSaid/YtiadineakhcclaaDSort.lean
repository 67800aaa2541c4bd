/-
  slices.SortStableFunc by Due, of at most 20 places: plain insertion.
-/
import Derived.Test.YtiadineakhcclaaDCmp
import Derived.Test.YtiadineakhcclaaSortP
import Derived.RegionTactic
import Derived.ChangeAlike
namespace Go.Proofs.Ytiadineakhcclaa
open Go.RowKit Go.Deep
set_option linter.unusedVariables false
set_option linter.unusedSimpArgs false

def SortPost (key : Nat → Int) (s0 : Nat → Nat) (n g : Nat) (w : World) (e : Ending) (w' : World) : Prop :=
  ∃ s : Nat → Nat, Sorted0 key s0 s n n ∧ RowF w' g n (fun k => .int .i64 (s k : Nat)) ∧ w.grownBy w' (some g) ∧ e = .returned (.tuple #[])
set_option maxRecDepth 100000 in
set_option maxHeartbeats 1600000 in
theorem insertion_due (A : Option Addr) (m ac bb g n c : Nat) (L : List J4) (s0 : Nat → Nat) (w : World) (hm : L.length = m) (hm8 : m ≤ 8) (hn8 : n ≤ 8) (hlow : ∀ k, k < n → s0 k < m) (hasc : ∀ a b, a < b → b < n → s0 a < s0 b) (hA : JobsA w w.heap.size A L)
    (hAg : ∀ b o, A = some ⟨b, o, none⟩ → b ≠ g) (hbg : bb ≠ g) (hc : w.cell? ⟨bb, 0, none⟩ = some (.slice A m ac)) (hR : RowF w g n (fun k => .int .i64 (s0 k : Nat))) :
    Calls Try.prog 82 #[.slice (some ⟨g, 0, none⟩) n c, .int .i64 0, .int .i64 (n : Nat), .func (.func 91) #[] #[.pointer (some ⟨bb, 0, none⟩)]] w (SortPost (fun a => (L.getD a j0).d) s0 n g w) := by
  have HR := hide hR
  have HLOW := hide hlow
  have HASC := hide hasc
  have hbl : bb < w.heap.size := cell_lt hc
  have HCM : Hid (∀ (w' : World) (a b : Nat), w.grownBy w' (some g) → a < m → b < m → Calls Try.prog 91 (#[.int .i64 (a : Nat), .int .i64 (b : Nat)] ++ #[.pointer (some ⟨bb, 0, none⟩)]) w' fun e w'' => e = .returned (.int .i64 (cmpI (L.getD a j0).d (L.getD b j0).d)) ∧ ∃ q, w'' = w'.drewN q) := fun w' a b hg ha hb => by
    refine due1_any A m ac bb L a b w' hm hm8 ha hb (fun i hi => ?_) (hg.cell hc (fun e => hbg (Option.some.inj e)))
    obtain ⟨b1, o1, e1, h1, h2, h3, h4, h5⟩ := hA i hi
    have hne : ∀ x, some (⟨b1, x, none⟩ : Addr).block ≠ some g := fun x e => hAg b1 o1 e1 (Option.some.inj e)
    exact ⟨b1, o1, e1, Nat.lt_of_lt_of_le h1 hg.size, hg.cell h2 (hne _), hg.cell h3 (hne _), hg.cell h4 (hne _), hg.cell h5 (hne _)⟩
  have HG0 : Hid (w.grownBy w (some g)) := ⟨rfl, rfl, rfl, Nat.le_refl _, fun _ _ _ => rfl⟩
  have HS0 : Hid (n = 0 ∨ Sorted0 (fun a => (L.getD a j0).d) s0 s0 n 1) := by
    by_cases e : n = 0
    · exact .inl e
    · exact .inr ⟨by omega, fun k hk => ⟨k, hk, rfl⟩, fun k _ _ => rfl, fun a b h1 h2 => by omega⟩
  clear hm hlow hasc hA hAg hbg hc hR
  go_enter Try.func82, Try.ntmps82
  go_wp2
  go_loopw [8] (fun v8 wr => ∃ (i : Nat) (s : Nat → Nat), 1 ≤ i ∧ (i ≤ n ∨ i = 1 ∧ n = 0) ∧ v8 = .int .i64 i ∧ Hid (n = 0 ∨ Sorted0 (fun a => (L.getD a j0).d) s0 s n i) ∧ Hid (RowF wr g n (fun k => .int .i64 (s k : Nat))) ∧ Hid (w.grownBy wr (some g))) (fun v8 _ => n + 1 - (intOf v8).toNat)
  case atStart => exact ⟨1, s0, Nat.le_refl _, by omega, rfl, HS0, HR, HG0⟩
  case round =>
    obtain ⟨i, s, hi1, hi2, rfl, HS, HRi, HG⟩ := hrel
    obtain ⟨w1, rfl⟩ : ∃ w1 : World, w1 = wr := ⟨_, rfl⟩
    by_cases hlt : i < n
    · have hin : (i : Int) < (n : Int) := by omega
      have HSI : Hid (Sorted0 (fun a => (L.getD a j0).d) s0 s n i) := by rcases HS.out with h | h; omega; exact h
      have HRS : Hid (RowF w1 g n (fun k => .int .i64 (movF s i i k : Nat))) := HRi.out.congr fun k hk => by rw [movF_self]
      go_wp2
      go_loopw [9] (fun v9 wr => ∃ j : Nat, j ≤ i ∧ v9 = .int .i64 j ∧ Hid (∀ k, j ≤ k → k < i → (L.getD (s i) j0).d < (L.getD (s k) j0).d) ∧ Hid (RowF wr g n (fun k => .int .i64 (movF s i j k : Nat))) ∧ Hid (w.grownBy wr (some g))) (fun v9 _ => (intOf v9).toNat)
      case atStart => exact ⟨i, Nat.le_refl _, rfl, fun k h1 h2 => by omega, HRS, HG⟩
      case round =>
        obtain ⟨j, hj, rfl, HGT, HRj, HGj⟩ := hrel
        obtain ⟨w2, rfl⟩ : ∃ w2 : World, w2 = wr := ⟨_, rfl⟩
        have HGD : Hid (∀ q, w.grownBy (w2.drewN q) (some g)) := fun q => ⟨HGj.out.os, HGj.out.tape, HGj.out.output, HGj.out.size, HGj.out.block⟩
        by_cases hj0 : j = 0
        · have hjd : decide ((0 : Int) < (j : Int)) = false := decide_eq_false (by omega)
          have hjd2 : decide (0 < j) = false := decide_eq_false (by omega)
          have HNX : Hid (n = 0 ∨ Sorted0 (fun a => (L.getD a j0).d) s0 (movF s i j) n (i + 1)) := .inr (HSI.out.next hlt HASC.out hj HGT.out (.inl hj0))
          clear hj0
          go_wp2
          go_quiet (fail)
          go_wp2
          go_roundw
          case rel => exact ⟨i + 1, movF s i j, by omega, by omega, by go_num, HNX, hide (HRj.out.of_block (w' := w2.drewN _) rfl), hide (HGD.out _)⟩
          case measure => simp [intOf] <;> omega
        · obtain ⟨j1, hja, hjb⟩ : ∃ j1, j ≤ j1 + 1 ∧ j1 + 1 ≤ j := ⟨j - 1, by omega, by omega⟩
          have hjd : decide ((0 : Int) < (j : Int)) = true := decide_eq_true (by omega)
          have hjd2 : decide (0 < j) = true := decide_eq_true (by omega)
          have hjd3 : 0 < j := by omega
          have hjn : (j : Int) < (n : Int) := by omega
          have hj1n : (j1 : Int) < (n : Int) := by omega
          obtain ⟨x, hx⟩ : ∃ x, s i = x := ⟨_, rfl⟩
          obtain ⟨y, hy⟩ : ∃ y, s j1 = y := ⟨_, rfl⟩
          have hc1 : w2.cell? ⟨g, j, none⟩ = some (.int .i64 (x : Nat)) := by
            have h9 := HRj.out.cell (k := j) (by omega)
            rw [h9]
            show some (Value.int .i64 ((movF s i j j : Nat) : Int)) = _
            unfold movF
            rw [if_neg (Nat.lt_irrefl _), if_pos rfl, hx]
          have hc2 : w2.cell? ⟨g, j1, none⟩ = some (.int .i64 (y : Nat)) := by
            have h9 := HRj.out.cell (k := j1) (by omega)
            rw [h9]
            show some (Value.int .i64 ((movF s i j j1 : Nat) : Int)) = _
            unfold movF
            rw [if_pos (by omega), hy]
          have hf1 := HRj.out.free j
          have hf2 := HRj.out.free j1
          have hgl := HRj.out.lt
          have hxm : x < m := by rw [← hx, HSI.out.high i (Nat.le_refl _) hlt]; exact HLOW.out i hlt
          have hym : y < m := by
            obtain ⟨q, hq, e⟩ := HSI.out.low j1 (by omega)
            rw [← hy, e]; exact HLOW.out q (by omega)
          have HC2 := hide (fun q => HCM.out (w2.drewN q) x y (HGD.out q) hxm hym)
          obtain ⟨cv, hcv⟩ : ∃ cv, cmpI (L.getD x j0).d (L.getD y j0).d = cv := ⟨_, rfl⟩
          have HCV : Hid (cv < 0 ↔ (L.getD x j0).d < (L.getD y j0).d) := by rw [← hcv]; exact cmpI_neg
          rw [hcv] at HC2
          have HX := hide hx
          have HY := hide hy
          clear hcv hx hy hj0
          by_cases hq : cv < 0
          · have hqd : decide (cv < 0) = true := decide_eq_true hq
            have HGT2 : Hid (∀ k, j1 ≤ k → k < i → (L.getD (s i) j0).d < (L.getD (s k) j0).d) := fun k h1 h2 => by
              by_cases e : k = j1
              · subst e; rw [HX.out, HY.out]; exact HCV.out.1 hq
              · exact HGT.out k (by omega) h2
            clear hq
            have hs4 : IntKind.i64.wrap ((j : Int) - 1) = (j1 : Int) := by rw [IntKind.wrap_i64]; omega
            go_wp2
            go_quiet ((go_at_call 91; exact Calls.quiet_of (HC2.out _)))
            go_wp2
            go_region
            go_wp2
            clear hs4
            go_roundw
            case rel =>
              refine ⟨j1, by omega, by congr 1, HGT2, hide ((((HRj.out.of_block (w' := w2.drewN _) rfl).set (i := j) (by omega) (.int .i64 (y : Nat))).set (i := j1) (by omega) (.int .i64 (x : Nat))).congr fun k hk => ?_), hide ?_⟩
              · have hjj : j = j1 + 1 := by omega
                have h9 := movF_swap s i j1 k (by omega)
                have h10 : movF s i (j1 + 1) (j1 + 1) = x := by unfold movF; rw [if_neg (Nat.lt_irrefl _), if_pos rfl]; exact HX.out
                have h11 : movF s i (j1 + 1) j1 = y := by unfold movF; rw [if_pos (by omega)]; exact HY.out
                rw [h10, h11] at h9
                show (if k = j1 then Value.int .i64 (x : Nat) else if k = j then Value.int .i64 (y : Nat) else Value.int .i64 (movF s i j k : Nat)) = Value.int .i64 (movF s i j1 k : Nat)
                rw [← h9, hjj]
                by_cases e1 : k = j1
                · rw [if_pos e1, if_pos e1]
                · rw [if_neg e1, if_neg e1]
                  by_cases e2 : k = j1 + 1
                  · rw [if_pos e2, if_pos e2]
                  · rw [if_neg e2, if_neg e2]
              · exact grown_set (grown_set (HGD.out _) _ _) _ _
            case measure => simp [intOf] <;> omega
          · have hqd : decide (cv < 0) = false := decide_eq_false hq
            have HNX : Hid (n = 0 ∨ Sorted0 (fun a => (L.getD a j0).d) s0 (movF s i j) n (i + 1)) := .inr (HSI.out.next hlt HASC.out hj HGT.out (.inr (by
              have h9 : ¬ (L.getD x j0).d < (L.getD y j0).d := fun h => hq (HCV.out.2 h)
              show (L.getD (s (j - 1)) j0).d ≤ (L.getD (s i) j0).d
              rw [show j - 1 = j1 by omega, HX.out, HY.out]
              omega)))
            clear hq
            have hs4 : IntKind.i64.wrap ((j : Int) - 1) = (j1 : Int) := by rw [IntKind.wrap_i64]; omega
            go_wp2
            go_quiet ((go_at_call 91; exact Calls.quiet_of (HC2.out _)))
            go_wp2
            clear hs4
            go_roundw
            case rel => exact ⟨i + 1, movF s i j, by omega, by omega, by go_num, HNX, hide (HRj.out.of_block (w' := w2.drewN _) rfl), hide (HGD.out _)⟩
            case measure => simp [intOf] <;> omega
    · have HSN : Hid (Sorted0 (fun a => (L.getD a j0).d) s0 s n n) := by
        rcases HS.out with h | h
        · subst h; exact ⟨Nat.le_refl _, fun k hk => by omega, fun k _ hk => by omega, fun a b _ hb => by omega⟩
        · obtain rfl : i = n := by have := h.le; omega
          exact h
      have hnl : ¬ (i : Int) < (n : Int) := by omega
      go_wp2
      go_end0
      exact ⟨s, HSN.out, HRi.out, HG.out, rfl⟩
end Go.Proofs.Ytiadineakhcclaa
