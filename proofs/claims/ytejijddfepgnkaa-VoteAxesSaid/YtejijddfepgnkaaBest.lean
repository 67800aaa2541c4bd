/-
  vote.Best.
-/
import Derived.Test.YtejijddfepgnkaaMargins
import Derived.Test.YtejijddfepgnkaaUpTo
import Derived.Test.YtejijddfepgnkaaWidths
namespace Go.Proofs.Ytejijddfepgnkaa
open Go.RowKit
set_option linter.unusedVariables false
set_option linter.unusedSimpArgs false

/-- What is reached from x by steps that do not lose. -/
inductive Rch (M : Mat) (n x : Nat) : Nat → Prop
  | here : x < n → Rch M n x x
  | step {a c : Nat} : Rch M n x a → c < n → M a c ≤ 0 → Rch M n x c
open Classical in
noncomputable def setR (M : Mat) (n x : Nat) : Nat := maskF n fun c => decide (Rch M n x c)
noncomputable def bstN (M : Mat) (n : Nat) : Nat → Nat
  | 0 => 2 ^ n - 1
  | x + 1 => if sdiff (setR M n x) (bstN M n x) = 0 then setR M n x else bstN M n x
noncomputable def bestN (M : Mat) (n : Nat) : Nat := bstN M n n
theorem Rch.lt {M : Mat} {n x c : Nat} (h : Rch M n x c) : c < n := by cases h <;> assumption
theorem setR_bit {M : Mat} {n x c : Nat} : (setR M n x).testBit c = true ↔ Rch M n x c := by
  unfold setR
  rw [testBit_maskF]
  simp only [Bool.and_eq_true, decide_eq_true_eq]
  exact ⟨fun h => h.2, fun h => ⟨h.lt, h⟩⟩
theorem setR_lt {M : Mat} {n x : Nat} : setR M n x < 2 ^ n := maskF_lt n _
theorem bstN_lt (M : Mat) (n : Nat) : ∀ x, bstN M n x < 2 ^ n
  | 0 => by have := Nat.two_pow_pos n; show 2 ^ n - 1 < _; omega
  | x + 1 => by
    rw [bstN]
    split
    · exact setR_lt
    · exact bstN_lt M n x
/-- A set on the way to what x reaches. -/
structure RIn (M : Mat) (n x s : Nat) : Prop where
  lt : s < 2 ^ n
  self : s.testBit x = true
  sub : ∀ c, s.testBit c = true → Rch M n x c
def ClAt (M : Mat) (s a c : Nat) : Prop := s.testBit a = true → M a c ≤ 0 → s.testBit c = true
theorem RIn.full {M : Mat} {n x s : Nat} (h : RIn M n x s) (hc : ∀ a, a < n → ∀ c, c < n → ClAt M s a c) : s = setR M n x := by
  apply Nat.eq_of_testBit_eq
  intro c
  rw [Bool.eq_iff_iff, setR_bit]
  refine ⟨h.sub c, fun hr => ?_⟩
  induction hr with
  | here _ => exact h.self
  | step h1 h2 h3 ih => exact hc _ h1.lt _ h2 ih h3
theorem RIn.begin {M : Mat} {n x : Nat} (hx : x < n) : RIn M n x (2 ^ x) :=
  ⟨Nat.pow_lt_pow_right (by decide) hx, by simp, fun c hc => by
    rw [Nat.testBit_two_pow] at hc
    have : x = c := by simpa using hc
    subst this; exact .here hx⟩
theorem or_gt {s c : Nat} (h : s.testBit c = false) : s < s ||| 2 ^ c := by
  refine Nat.lt_of_le_of_ne Nat.left_le_or fun e => ?_
  have : (s ||| 2 ^ c).testBit c = true := by simp
  rw [← e, h] at this
  cases this
theorem RIn.more {M : Mat} {n x s a c : Nat} (h : RIn M n x s) (ha : s.testBit a = true) (hc : c < n) (hm : M a c ≤ 0) : RIn M n x (s ||| 2 ^ c) :=
  ⟨Nat.or_lt_two_pow h.lt (Nat.pow_lt_pow_right (by decide) hc), by rw [Nat.testBit_or, h.self]; rfl, fun d hd => by
    rw [Nat.testBit_or, Bool.or_eq_true, Nat.testBit_two_pow] at hd
    rcases hd with h1 | h1
    · exact h.sub d h1
    · have : c = d := by simpa using h1
      subst this; exact .step (h.sub a ha) hc hm⟩
def flagN : Value → Nat
  | .bool true => 1
  | _ => 0
/-- Where a pass stands: begun with s0, at row a, column c. -/
structure Pass (M : Mat) (n x s0 a c s : Nat) (g : Bool) : Prop where
  rin : RIn M n x s
  le : s0 ≤ s
  up : g = true → s0 < s
  same : g = false → s = s0 ∧ (∀ a', a' < a → ∀ c', c' < n → ClAt M s a' c') ∧ ∀ c', c' < c → ClAt M s a c'
structure BMem (w wr : World) (mb : Nat) (M : Mat) : Prop where
  mat : wr.heap[mb]? = some (.cells (matC M) 80 (0, 0))
  bel : Below w.heap.size w wr
theorem BMem.drewN {w wr : World} {mb : Nat} {M : Mat} (h : BMem w wr mb M) (k : Nat) : BMem w (wr.drewN k) mb M := ⟨h.mat, below_drewN h.bel k⟩

set_option maxHeartbeats 800000 in
theorem Best_no (A : Option Addr) (v c : Nat) (L : List (List Int)) (w : World) (hn : L.length = v) (hlen : v ≤ 9223372036854775807) (hrow : ∀ l ∈ L, l.length ≤ 9223372036854775807) (hA : RowsA w w.heap.size A L) (hv : votesB L = false) :
    Calls Try.prog 39 #[.slice A v c] w fun e w' => e = .returned (.tuple #[.int .i64 0, .int .i64 2]) ∧ Below w.heap.size w w' := by
  have HV := hide (valid_any A v c w.heap.size L w hn hlen hrow hA)
  rw [hv] at HV
  clear hv hA hrow hn
  go_enter Try.func39, Try.ntmps39
  go_wp2_with (go_at_call 62; refine (HV.out).mono ?_; rintro e w1 ⟨rfl, hb⟩; have HB := hide hb; clear hb)
  go_ret2
  exact ⟨rfl, HB.out⟩

set_option maxRecDepth 100000 in
set_option maxHeartbeats 3200000 in
theorem Best_yes (A : Option Addr) (v n c : Nat) (W : List (List Nat)) (w : World) (hW : BOk W v n) (hA : RowsA w w.heap.size A (upp W)) (hv : votesB (upp W) = true) :
    Calls Try.prog 39 #[.slice A v c] w fun e w' => e = .returned (.tuple #[.int .i64 (bestN (margM W) n : Nat), .int .i64 0]) ∧ Below w.heap.size w w' := by
  have hn5 := hW.nle
  have h9 := hW.le
  have HV := hide (valid_any A v c w.heap.size (upp W) w (by rw [upp_length, hW.len]) (by omega) (fun l hl => by have := (ordB_iff.1 ((votesB_iff.1 hv).2.2 l hl)).1; have := (votesB_iff.1 hv).2.1; omega) hA)
  rw [hv] at HV
  have HMG := hide (fun w' (hw' : Below w.heap.size w w') => margins_any A v n c W w' hW (hA.next hw'))
  have HNA := hide (fun w' (hw' : Below w.heap.size w w') => names_any A v n c w.heap.size W w' hW (hA.below hw'))
  generalize margM W = M at *
  have hu : Try.prog.underlying 80 = some (.array 5 78) := by kernel_rfl
  have HU := hide hu
  have HI9 : Hid (∀ M : Mat, (Try.prog.info? 80).map (·.size) = some (matC M).size) := fun M => by rw [matC_size]; kernel_rfl
  have HSZ : Hid (∀ M M' : Mat, (matC M).size = (matC M').size) := fun M M' => by rw [matC_size, matC_size]
  have hz : Hid (matC (fun _ _ => 0) = #[.int .i64 0, .int .i64 0, .int .i64 0, .int .i64 0, .int .i64 0, .int .i64 0, .int .i64 0, .int .i64 0, .int .i64 0, .int .i64 0, .int .i64 0, .int .i64 0, .int .i64 0, .int .i64 0, .int .i64 0, .int .i64 0, .int .i64 0, .int .i64 0, .int .i64 0, .int .i64 0, .int .i64 0, .int .i64 0, .int .i64 0, .int .i64 0, .int .i64 0]) := matC_zero
  have hsh : wrap64 (2 ^ n) = ((2 ^ n : Nat) : Int) := shl_one n (by omega)
  have hpow : 2 ^ n ≤ 2 ^ 5 := Nat.pow_le_pow_right (by decide) hn5
  have hpos : 0 < 2 ^ n := Nat.two_pow_pos n
  have hsb : Hid (wrap64 ((2 : Int) ^ n - 1) = ((2 ^ n - 1 : Nat) : Int)) := by
    show wrap64 ((2 : Int) ^ n - 1) = ((2 ^ n - 1 : Nat) : Int)
    rw [show (2 : Int) ^ n - 1 = ((2 ^ n - 1 : Nat) : Int) from by have : ((2 : Int) ^ n) = ((2 ^ n : Nat) : Int) := by simp
                                                                   omega, wrapNat _ (by omega)]
  have HPOW := hide hpow
  have HPOS := hide hpos
  clear hv hA hW hu hpow hpos
  go_enter Try.func39, Try.ntmps39
  go_wp2_with (first
    | (go_at_call 62; refine (HV.out).mono ?_; rintro e w1 ⟨rfl, hb⟩; have HB := hide hb; clear hb)
    | (go_at_call 69; refine (HMG.out _ HB.out).mono ?_; rintro e w2 ⟨rfl, hb⟩; have HB2 := hide (HB.out.trans (hb.mono HB.out.size)); clear hb)
    | (go_at_call 60; refine (HNA.out w2 HB2.out).mono ?_; rintro e w' ⟨rfl, rfl⟩)
    | (rw [← hz.out]; (with_reducible show wpList _ _ _ (⟨none, _, _, _, _, _⟩ :: _) _ _); refine wpList_store_row rfl 80 _ _ rfl w2.heap.size (matC M) rfl rfl _ _ (alloc_new _ _ _ rfl) (HI9.out _) (HSZ.out _ _) (matC_one M) ?_))
  obtain ⟨mb, hmb⟩ : ∃ mb, w2.heap.size = mb := ⟨_, rfl⟩
  obtain ⟨w4, hw4⟩ : ∃ w4, w4 = (w2.alloc (.cells (matC fun _ _ => 0) 80)).setRow w2.heap.size (matC M) := ⟨_, rfl⟩
  have hsz2 := HB2.out.size
  have hm0 : BMem w w4 mb M := by
    subst hw4
    refine ⟨?_, ?_⟩
    · rw [← hmb]; exact setRow_blk (alloc_new _ _ _ rfl)
    · exact below_setRow (HB2.out.alloc (by omega) _) (by omega) _
  rw [← hw4, hmb]
  have HM0 := hide hm0
  clear hm0 hw4 hmb hsz2
  go_loopw [7, 25] (fun b s wr => ∃ x : Nat, x ≤ n ∧ s = .int .i64 x ∧ b = .int .i64 (bstN M n x : Nat) ∧ BMem w wr mb M) (fun _ s _ => n - (intOf s).toNat)
  case atStart => exact ⟨0, Nat.zero_le _, rfl, by rw [hsb.out]; rfl, HM0.out⟩
  case round =>
    obtain ⟨x, hx, rfl, rfl, hm⟩ := hrel
    have hnx : Hid (bstN M n (x + 1) = if sdiff (setR M n x) (bstN M n x) = 0 then setR M n x else bstN M n x) := rfl
    have hbl := bstN_lt M n x
    obtain ⟨b0, hb0⟩ : ∃ b, bstN M n x = b := ⟨_, rfl⟩
    have HB0 := hide hb0
    rw [hb0] at hnx hbl ⊢
    clear hb0
    have HBL := hide hbl
    have HM := hide hm
    clear hm hbl
    by_cases hlt : x < n
    · have hsx : wrap64 (2 ^ x) = ((2 ^ x : Nat) : Int) := shl_one x (by omega)
      have HBE := hide (RIn.begin (M := M) hlt)
      go_wp2
      go_loopw [9, 10] (fun z t wr => ∃ (s : Nat) (g : Bool), z = .int .i64 (s : Nat) ∧ t = .bool g ∧ RIn M n x s ∧ (g = false → ∀ a, a < n → ∀ c, c < n → ClAt M s a c) ∧ BMem w wr mb M) (fun z t _ => 2 ^ n - (intOf z).toNat + flagN t)
      case atStart => exact ⟨2 ^ x, true, by rw [hsx], rfl, HBE.out, (fun h => by cases h), HM.out⟩
      case round =>
        clear HBE HM
        obtain ⟨s0, g0, rfl, rfl, hin, hcl, hm⟩ := hrel
        have HIN := hide hin
        have HCL := hide hcl
        have HM := hide hm
        clear hin hcl hm
        cases g0 with
        | true =>
          go_wp2
          go_loopw [9, 10, 32] (fun z t u wr => ∃ (a s : Nat) (g : Bool), a ≤ n ∧ u = .int .i64 (a : Nat) ∧ z = .int .i64 (s : Nat) ∧ t = .bool g ∧ Pass M n x s0 a 0 s g ∧ BMem w wr mb M) (fun _ _ u _ => n - (intOf u).toNat)
          case atStart => exact ⟨0, s0, false, Nat.zero_le _, rfl, rfl, rfl, ⟨HIN.out, Nat.le_refl _, (fun h => by cases h), fun _ => ⟨rfl, (fun a h => absurd h (by omega)), (fun c h => absurd h (by omega))⟩⟩, HM.out⟩
          case round =>
            clear HIN HM HCL
            obtain ⟨a, s, g, ha, rfl, rfl, rfl, hp, hm⟩ := hrel
            have HP := hide hp
            have HM := hide hm
            clear hp hm
            by_cases hlta : a < n
            · go_wp2
              go_loopw [9, 10, 36] (fun z t u wr => ∃ (c s : Nat) (g : Bool), c ≤ n ∧ u = .int .i64 (c : Nat) ∧ z = .int .i64 (s : Nat) ∧ t = .bool g ∧ Pass M n x s0 a c s g ∧ BMem w wr mb M) (fun _ _ u _ => n - (intOf u).toNat)
              case atStart => exact ⟨0, s, g, Nat.zero_le _, rfl, rfl, rfl, HP.out, HM.out⟩
              case round =>
                clear HP HM
                obtain ⟨c, s, g, hc, rfl, rfl, rfl, hp, hm⟩ := hrel
                by_cases hltc : c < n
                · have hs62 : s < 2 ^ 62 := by have := hp.rin.lt; have := HPOW.out; omega
                  have t1 := shr_test s a hs62
                  have t2 := shr_test0 s c hs62
                  have q1 : wr.cell? ⟨mb, a * 5 + c, none⟩ = some (.int .i64 (M a c)) := (blk_cell hm.mat _).trans (matC_at M (by omega) (by omega))
                  have i1 : (a : Int) < 5 := by omega
                  have i2 : (c : Int) < 5 := by omega
                  by_cases hyes : s.testBit a = true ∧ s.testBit c = false ∧ M a c ≤ 0
                  · obtain ⟨y1, y2, y3⟩ := hyes
                    have hsc : wrap64 (2 ^ c) = ((2 ^ c : Nat) : Int) := shl_one c (by omega)
                    have hor : bits .or .i64 (s : Int) ((2 ^ c : Nat) : Int) = ((s ||| 2 ^ c : Nat) : Int) := bor_nat s (2 ^ c) hs62 (Nat.pow_lt_pow_right (by decide) (by omega))
                    have hor2 : bits .or .i64 (s : Int) (2 ^ c : Int) = ((s ||| 2 ^ c : Nat) : Int) := by rw [← hor]; simp
                    have hp2 : Pass M n x s0 a (c + 1) (s ||| 2 ^ c) true := ⟨hp.rin.more y1 hltc y3, Nat.le_trans hp.le Nat.left_le_or, fun _ => Nat.lt_of_le_of_lt hp.le (or_gt y2), (fun h => by cases h)⟩
                    have e1 : (bits .and .i64 ((s : Int) / 2 ^ a) 1 == 1) = true := by rw [t1, y1]
                    have e2 : (bits .and .i64 ((s : Int) / 2 ^ c) 1 == 0) = true := by rw [t2, y2]; rfl
                    have e3 : decide (M a c ≤ 0) = true := decide_eq_true y3
                    generalize M a c = z at *
                    have HP := hide hp2
                    have HM := hide hm
                    clear hp hp2 hm t1 t2 y1 y2
                    go_wp2
                    go_roundw
                    case rel => exact ⟨c + 1, s ||| 2 ^ c, true, by omega, by go_num, rfl, rfl, HP.out, HM.out⟩
                    case measure => simp [intOf] <;> omega
                  · have hp2 : Pass M n x s0 a (c + 1) s g := ⟨hp.rin, hp.le, hp.up, fun hg => ⟨(hp.same hg).1, (hp.same hg).2.1, fun c' h' => by
                      rcases (by omega : c' < c ∨ c' = c) with h | rfl
                      · exact (hp.same hg).2.2 c' h
                      · intro h1 h2
                        cases h3 : s.testBit c' with
                        | true => rfl
                        | false => exact absurd ⟨h1, h3, h2⟩ hyes⟩⟩
                    have HP := hide hp2
                    have HM := hide hm
                    have hcase : s.testBit a = false ∨ (s.testBit a = true ∧ s.testBit c = true) ∨ (s.testBit a = true ∧ s.testBit c = false ∧ ¬ M a c ≤ 0) := by
                      cases h1 : s.testBit a <;> cases h2 : s.testBit c <;> simp_all
                    clear hp hp2 hm hyes
                    rcases hcase with h1 | ⟨h1, h2⟩ | ⟨h1, h2, h3⟩
                    · have e1 : (bits .and .i64 ((s : Int) / 2 ^ a) 1 == 1) = false := by rw [t1, h1]
                      clear t1 t2 h1
                      go_wp2
                      go_roundw
                      case rel => exact ⟨c + 1, _, g, by omega, by go_num, rfl, rfl, HP.out, HM.out⟩
                      case measure => simp [intOf] <;> omega
                    · have e1 : (bits .and .i64 ((s : Int) / 2 ^ a) 1 == 1) = true := by rw [t1, h1]
                      have e2 : (bits .and .i64 ((s : Int) / 2 ^ c) 1 == 0) = false := by rw [t2, h2]; rfl
                      clear t1 t2 h1 h2
                      go_wp2
                      go_roundw
                      case rel => exact ⟨c + 1, _, g, by omega, by go_num, rfl, rfl, HP.out, HM.out⟩
                      case measure => simp [intOf] <;> omega
                    · have e1 : (bits .and .i64 ((s : Int) / 2 ^ a) 1 == 1) = true := by rw [t1, h1]
                      have e2 : (bits .and .i64 ((s : Int) / 2 ^ c) 1 == 0) = true := by rw [t2, h2]; rfl
                      have e3 : decide (M a c ≤ 0) = false := decide_eq_false h3
                      generalize M a c = z at *
                      clear t1 t2 h1 h2
                      go_wp2
                      go_roundw
                      case rel => exact ⟨c + 1, _, g, by omega, by go_num, rfl, rfl, HP.out, HM.out⟩
                      case measure => simp [intOf] <;> omega
                · obtain rfl : n = c := by omega
                  have HP := hide hp
                  have HM := hide hm
                  clear hp hm
                  go_wp2
                  go_roundw
                  case rel => exact ⟨a + 1, s, g, by omega, by go_num, rfl, rfl, ⟨HP.out.rin, HP.out.le, HP.out.up, fun hg => ⟨(HP.out.same hg).1, (fun a' h' => by
                      rcases (by omega : a' < a ∨ a' = a) with h | rfl
                      · exact (HP.out.same hg).2.1 a' h
                      · exact (HP.out.same hg).2.2), (fun c h => absurd h (by omega))⟩⟩, HM.out⟩
                  case measure => simp [intOf] <;> omega
            · obtain rfl : n = a := by omega
              go_wp2
              go_roundw
              case rel => exact ⟨s, g, rfl, rfl, HP.out.rin, (fun hg => (HP.out.same hg).2.1), HM.out⟩
              case measure =>
                have h1 := HP.out.rin.lt
                have h2 := HP.out.le
                cases g with
                | true => have := HP.out.up rfl; simp [intOf, flagN]; omega
                | false => have := (HP.out.same rfl).1; subst this; simp [intOf, flagN]
        | false =>
          have hfin : s0 = setR M n x := HIN.out.full (HCL.out rfl)
          have hs62 : s0 < 2 ^ 62 := by have := HIN.out.lt; have := HPOW.out; omega
          have hb62 : b0 < 2 ^ 62 := by have := HBL.out; have := HPOW.out; omega
          have hsd := bandNot_nat s0 b0 hs62 hb62
          rw [← hfin] at hnx
          have HFIN := hide hfin
          clear hfin
          by_cases h0 : sdiff s0 b0 = 0
          · rw [if_pos h0] at hnx
            have hsd0 : (bits .andNot .i64 (s0 : Int) (b0 : Int) == 0) = true := by rw [hsd, h0]; rfl
            clear h0 hsd
            go_wp2
            go_roundw
            case rel => exact ⟨x + 1, by omega, by go_num, by rw [hnx.out], HM.out⟩
            case measure => simp [intOf] <;> omega
          · rw [if_neg h0] at hnx
            have hsd0 : (bits .andNot .i64 (s0 : Int) (b0 : Int) == 0) = false := by rw [hsd]; simp; omega
            clear h0 hsd
            go_wp2
            go_roundw
            case rel => exact ⟨x + 1, by omega, by go_num, by rw [hnx.out], HM.out⟩
            case measure => simp [intOf] <;> omega
    · obtain rfl : n = x := by omega
      go_wp2
      go_ret2
      exact ⟨by rw [bestN, HB0.out]; rfl, HM.out.bel⟩
end Go.Proofs.Ytejijddfepgnkaa
