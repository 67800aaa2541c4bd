/-
  The walk of SwapEqual.
-/
import Derived.Test.YtilnbiaabhdfgaaEqualTtc
import Derived.Test.YtilnbiaabhdfgaaLawSwapGiven
namespace Go.Proofs.Ytilnbiaabhdfgaa
open Go.RowKit
set_option linter.unusedVariables false
set_option linter.unusedSimpArgs false

def valN (T : List (List Nat)) (i j : Nat) : Nat := (T.getD i []).getD j 0
def sumTo (f : Nat → Nat) : Nat → Nat
  | 0 => 0
  | k + 1 => sumTo f k + f k
def factN : Nat → Nat
  | 0 => 1
  | k + 1 => factN k * (k + 1)
theorem sumTo_add (f g : Nat → Nat) (n : Nat) : sumTo (fun j => f j + g j) n = sumTo f n + sumTo g n := by
  induction n with
  | zero => rfl
  | succ n ih => simp only [sumTo, ih]; omega
theorem sumTo_congr {f g : Nat → Nat} {n : Nat} (h : ∀ j, j < n → f j = g j) : sumTo f n = sumTo g n := by
  induction n with
  | zero => rfl
  | succ n ih => simp only [sumTo, ih (fun j hj => h j (by omega)), h n (by omega)]
theorem sumTo_zero {f : Nat → Nat} {n : Nat} (h : ∀ j, j < n → f j = 0) : sumTo f n = 0 := by
  induction n with
  | zero => rfl
  | succ n ih => simp only [sumTo, ih (fun j hj => h j (by omega)), h n (by omega)]
theorem sumTo_one {p : Nat → Bool} {n j : Nat} (hj : j < n) (hp : p j = true) (hu : ∀ i, i < n → p i = true → i = j) : sumTo (fun i => if p i then 1 else 0) n = 1 := by
  induction n with
  | zero => omega
  | succ n ih =>
    simp only [sumTo]
    by_cases e : j = n
    · subst e
      rw [sumTo_zero (fun i hi => by
        cases h : p i with
        | false => rfl
        | true => have := hu i (by omega) h; omega), hp]; rfl
    · rw [ih (by omega) (fun i hi h => hu i (by omega) h)]
      cases h : p n with
      | false => rfl
      | true => have := hu n (by omega) h; omega
theorem sumTo_count {α : Type} {n : Nat} (P : α → Nat → Bool) : ∀ L : List α, (∀ l, l ∈ L → ∃ j, j < n ∧ P l j = true ∧ ∀ i, i < n → P l i = true → i = j) → sumTo (fun j => L.countP fun l => P l j) n = L.length := by
  intro L
  induction L with
  | nil => intro _; exact sumTo_zero (fun j _ => rfl)
  | cons l L ih =>
    intro h
    have e : sumTo (fun j => (l :: L).countP fun l => P l j) n = sumTo (fun j => (L.countP fun l => P l j) + if P l j then 1 else 0) n := sumTo_congr (fun j _ => by rw [List.countP_cons])
    obtain ⟨j, hj, hp, hu⟩ := h l (by simp)
    rw [e, sumTo_add, ih (fun a ha => h a (by simp [ha])), sumTo_one hj hp hu]; rfl
theorem ords_fact : ∀ n, n ≤ 5 → (ordsN n).length = factN n := by decide +kernel
theorem chances_val {W : List (List Nat)} {n i g : Nat} (hW : WOk W n) (hi : i < n) (hg : g < n) : valN (chancesN W) i g = (ordsN n).countP fun l => (chooseN W l).getD i 0 == g := by
  have e : valN (chancesN W) i g = tallyF n (chooseN W) (ordsN n) (fun _ _ => 0) i g := by
    rw [valN, chancesN, hW.len, tallyN_row _ _ hi]; simp [List.getD_eq_getElem?_getD, hg]
  rw [e, tallyF_count _ i g hi]; simp
theorem chances_rows {W : List (List Nat)} {n : Nat} (hW : WOk W n) {i : Nat} (hi : i < n) : sumTo (fun j => valN (chancesN W) i j) n = factN n := by
  rw [sumTo_congr (fun j hj => chances_val hW hi hj), ← ords_fact n hW.le]
  exact sumTo_count (fun l j => (chooseN W l).getD i 0 == j) _ fun l hl => ⟨_, (chooseN_ord hW (mem_ordsN.1 hl)).getD_lt hi, by simp, fun k _ hk => by simpa using (beq_iff_eq.1 hk).symm⟩
theorem chances_cols {W : List (List Nat)} {n : Nat} (hW : WOk W n) {i : Nat} (hi : i < n) : sumTo (fun j => valN (chancesN W) j i) n = factN n := by
  rw [sumTo_congr (fun j hj => chances_val hW hj hi), ← ords_fact n hW.le]
  refine sumTo_count (fun l j => (chooseN W l).getD j 0 == i) _ fun l hl => ?_
  have ho := chooseN_ord hW (mem_ordsN.1 hl)
  obtain ⟨h1, h2⟩ := at_place ho hi
  exact ⟨_, h1, by rw [h2]; simp, fun k hk hk2 => ho.inj _ _ hk h1 (by rw [h2]; exact beq_iff_eq.1 hk2)⟩
theorem chances_le {W : List (List Nat)} {n i g : Nat} (hW : WOk W n) (hi : i < n) (hg : g < n) : valN (chancesN W) i g ≤ 120 := by
  rw [chances_val hW hi hg]
  exact Nat.le_trans (List.countP_le_length) (ords_len n hW.le)
theorem sumTo_le {f : Nat → Nat} {n : Nat} (h : ∀ j, j < n → f j ≤ 120) : ∀ k, k ≤ n → sumTo f k ≤ 120 * k := by
  intro k
  induction k with
  | zero => intro _; exact Nat.le_refl _
  | succ k ih => intro hk; have := ih (by omega); have := h k (by omega); simp only [sumTo]; omega
theorem fact_le : ∀ k, k ≤ 5 → factN k ≤ 120 := by decide

set_option maxRecDepth 100000 in
set_option maxHeartbeats 3200000 in
theorem swapEqual_any (A : Option Addr) (n c : Nat) (L : List (List Int)) (w : World) (hn : L.length = n) (hlen : n ≤ 9223372036854775807) (hrow : ∀ l ∈ L, l.length ≤ 9223372036854775807) (hA : RowsA w w.heap.size A L) :
    Calls Try.prog 9 #[.slice A n c] w fun e w' => e = .returned (.bool true) ∧ Below w.heap.size w w' := by
  obtain ⟨q, hq⟩ : ∃ q, (fewL L).length = q := ⟨_, rfl⟩
  have HFE := hide (few_in (c := c) hn hlen hrow hq hA)
  cases hv : validB L
  · have HC := hide (fewChances_no hq hv)
    have HG := hide (fewGiven_no hq hv)
    clear hv hrow hn hA hq
    go_enter Try.func9, Try.ntmps9
    have hb := Below.refl w.heap.size w
    go_wp2_with fail
    refine (HFE.out _ hb).mono ?_
    rintro e w1 ⟨A1, c1, rfl, hq1, hR1, hbn⟩
    replace hb := hb.trans (hbn.mono hb.size)
    clear hbn
    go_wp2_with fail
    refine (HC.out _ _ _ hR1).mono ?_
    rintro e w2 ⟨rfl, hbn⟩
    replace hR1 := hR1.next hbn
    replace hb := hb.trans (hbn.mono hb.size)
    clear hbn
    clear hR1
    go_wp2_with fail
    refine (HFE.out _ hb).mono ?_
    rintro e w3 ⟨A1, c1, rfl, hq1, hR1, hbn⟩
    replace hb := hb.trans (hbn.mono hb.size)
    clear hbn
    go_wp2_with fail
    refine (HG.out _ _ _ hR1).mono ?_
    rintro e w4 ⟨rfl, hbn⟩
    replace hR1 := hR1.next hbn
    replace hb := hb.trans (hbn.mono hb.size)
    clear hbn
    clear hR1
    go_wp2_with fail
    refine (awake_any _).mono ?_
    rintro e w5 ⟨rfl, hbn⟩
    replace hb := hb.trans (hbn.mono hb.size)
    clear hbn
    go_wp2
    go_ret
    exact ⟨rfl, hb⟩
  · have hqn : q = n := by rw [← hq, few_same hv, hn]
    subst hqn
    obtain ⟨W, hW⟩ : ∃ W, NatsOf L q W := ⟨_, nats_of hv hn⟩
    rw [few_same hv] at HFE
    have h5 := hW.ok.le
    have h1 := hW.ok.pos
    have HCA := hide (okChances hW)
    have HGA := hide (okGiven hW)
    have hcg := chances_given hW.ok
    rw [← hcg] at HGA
    have HTL : Hid ((chancesN W).length = q) := by show _ = _; rw [chancesN, tallyN_len, hW.ok.len]
    have HTU : Hid ((upp (chancesN W)).length = q) := by show _ = _; rw [upp_length]; exact HTL.out
    have HTR : Hid (∀ l ∈ upp (chancesN W), l.length ≤ 9223372036854775807) := tally_rows _ _ (by rw [hW.ok.len]; exact h5)
    have HRL : Hid (∀ i, i < q → ((chancesN W).getD i []).length = q) := fun i hi => by rw [chancesN, hW.ok.len, tallyN_row _ _ hi]; simp
    have HRS : Hid (∀ i, i < q → sumTo (fun j => valN (chancesN W) i j) q = factN q) := fun i hi => chances_rows hW.ok hi
    have HCS : Hid (∀ i, i < q → sumTo (fun j => valN (chancesN W) j i) q = factN q) := fun i hi => chances_cols hW.ok hi
    have HLE : Hid (∀ i g, i < q → g < q → valN (chancesN W) i g ≤ 120) := fun i g hi hg => chances_le hW.ok hi hg
    have HFQ := hide (fact_le q h5)
    generalize chancesN W = T at *
    clear hv hrow hn hA hq hW hcg
    go_enter Try.func9, Try.ntmps9
    have hb := Below.refl w.heap.size w
    go_wp2_with fail
    refine (HFE.out _ hb).mono ?_
    rintro e w1 ⟨A1, c1, rfl, hq1, hR1, hbn⟩
    replace hb := hb.trans (hbn.mono hb.size)
    clear hbn
    go_wp2_with fail
    refine (HCA.out _ _ _ hR1).mono ?_
    rintro e w2 ⟨X2, k2, rfl, hk2, hT2, hbn⟩
    replace hR1 := hR1.next hbn
    replace hb := hb.trans (hbn.mono hb.size)
    clear hbn
    clear hR1
    go_wp2_with fail
    refine (HFE.out _ hb).mono ?_
    rintro e w3 ⟨A1, c1, rfl, hq1, hR1, hbn⟩
    replace hT2 := hT2.next hbn
    replace hb := hb.trans (hbn.mono hb.size)
    clear hbn
    go_wp2_with fail
    refine (HGA.out _ _ _ hR1).mono ?_
    rintro e w4 ⟨X4, k4, rfl, hk4, hT4, hbn⟩
    replace hT2 := hT2.next hbn
    replace hR1 := hR1.next hbn
    replace hb := hb.trans (hbn.mono hb.size)
    clear hbn
    clear hR1
    go_wp2
    go_loop [7, 42] (fun a i => ∃ k : Nat, k ≤ q ∧ i = .int .i64 k ∧ a = .int .i64 (factN k : Nat)) (fun _ i => q - (intOf i).toNat)
    case atStart => exact ⟨0, Nat.zero_le _, rfl, rfl⟩
    case round =>
      obtain ⟨k, hk, rfl, rfl⟩ := hrel
      by_cases hlt : k < q
      · have hfk := fact_le k (by omega)
        have hf1 : Hid (factN (k + 1) = factN k * (k + 1)) := rfl
        generalize factN k = fk at *
        have hmul : wrap64 ((fk : Int) * ((k : Int) + 1)) = ((fk * (k + 1) : Nat) : Int) := by
          have h9 : fk * (k + 1) ≤ 120 * 6 := Nat.mul_le_mul hfk (by omega)
          have e9 : ((fk * (k + 1) : Nat) : Int) = (fk : Int) * ((k : Int) + 1) := by push_cast; rfl
          rw [← e9]; exact wrapNat _ (by omega)
        have HMU := hide hmul
        go_wp2
        go_round
        case rel => exact ⟨k + 1, by omega, by go_num, by rw [hf1.out]; first | rfl | rw [HMU.out]⟩
        case measure => simp [intOf] <;> omega
      · obtain rfl : q = k := by omega
        go_wp2_with fail
        refine (same_any X2 X4 q q k2 k4 _ _ _ _ w4 HTU.out HTU.out (by omega) HTR.out hT2 hT4).mono ?_
        rintro e w21 ⟨rfl, m21, rfl⟩
        replace hT2 := hT2.keep (w' := w4.drewN m21) fun _ _ => rfl
        replace hT4 := hT4.keep (w' := w4.drewN m21) fun _ _ => rfl
        replace hb := below_drewN hb m21
        replace hT2 := hT2.more (B' := (w4.drewN m21).heap.size) (Nat.le_refl _)
        replace hT4 := hT4.more (B' := (w4.drewN m21).heap.size) (Nat.le_refl _)
        generalize w4.drewN m21 = w21 at *
        simp only [decide_true]
        clear hT4
        go_wp2
        go_loop [63] (fun i => ∃ i' : Nat, i' ≤ q ∧ i = .int .i64 i') (fun i => q - (intOf i).toNat)
        case atStart => exact ⟨0, Nat.zero_le _, rfl⟩
        case round =>
          obtain ⟨i, hi, rfl⟩ := hrel
          by_cases hlti : i < q
          · go_wp2
            go_loop [10, 11, 68] (fun r c j => ∃ k : Nat, k ≤ q ∧ j = .int .i64 k ∧ r = .int .i64 (sumTo (fun j => valN T i j) k : Nat) ∧ c = .int .i64 (sumTo (fun j => valN T j i) k : Nat)) (fun _ _ j => q - (intOf j).toNat)
            case atStart => exact ⟨0, Nat.zero_le _, rfl, rfl, rfl⟩
            case round =>
              obtain ⟨k, hk, rfl, rfl, rfl⟩ := hrel
              by_cases hltk : k < q
              · have hr1 := sumTo_le (f := fun j => valN T i j) (fun j hj => HLE.out i j hlti hj) k (by omega)
                have hr2 := sumTo_le (f := fun j => valN T j i) (fun j hj => HLE.out j i hj hlti) k (by omega)
                have v1 := HLE.out i k hlti hltk
                have v2 := HLE.out k i hltk hlti
                have hs1 : Hid (sumTo (fun j => valN T i j) (k + 1) = sumTo (fun j => valN T i j) k + valN T i k) := rfl
                have hs2 : Hid (sumTo (fun j => valN T j i) (k + 1) = sumTo (fun j => valN T j i) k + valN T k i) := rfl
                generalize sumTo (fun j => valN T i j) k = S1 at *
                generalize sumTo (fun j => valN T j i) k = S2 at *
                obtain ⟨b1, o1, Ai, ni, ci, hXe, hb1, hc1, hx1, hle1, hI1⟩ := hT2.at_ (k := i) (by rw [upp_length, HTL.out]; exact hlti)
                obtain ⟨b2, o2, Ak, nk, ck, hXe2, hb2, hc2, hx2, hle2, hI2⟩ := hT2.at_ (k := k) (by rw [upp_length, HTL.out]; exact hltk)
                rw [hXe] at hXe2
                injection hXe2 with e1
                injection e1 with e1 e2 _
                subst e1; subst e2; subst hXe
                rw [upp_getD] at hI1 hx1 hI2 hx2
                obtain rfl : q = ni := by have := hx1.out; rw [up_length, HRL.out i hlti] at this; exact this
                obtain rfl : q = nk := by have := hx2.out; rw [up_length, HRL.out k hltk] at this; exact this
                obtain ⟨b3, o3, x3, rfl, hb3, hc3, hx3⟩ := hI1.at_ (k := k) (by rw [up_length, HRL.out i hlti]; exact hltk)
                obtain ⟨b4, o4, x4, rfl, hb4, hc4, hx4⟩ := hI2.at_ (k := i) (by rw [up_length, HRL.out k hltk]; exact hlti)
                have e3 := hx3.out
                have e4 := hx4.out
                rw [up_getD] at e3 e4
                have e3' : ((valN T i k : Nat) : Int) = x3 := e3
                have e4' : ((valN T k i : Nat) : Int) = x4 := e4
                generalize valN T i k = y1 at *
                generalize valN T k i = y2 at *
                subst e3'; subst e4'
                clear hx1 hx2 hx3 hx4 hI1 hI2 e3 e4
                go_wp2
                go_round
                case rel => exact ⟨k + 1, by omega, by go_num, by rw [hs1.out]; go_num, by rw [hs2.out]; go_num⟩
                case measure => simp [intOf] <;> omega
              · obtain rfl : q = k := by omega
                have z1 := HRS.out i hlti
                have z2 := HCS.out i hlti
                rw [z1, z2]
                clear z1 z2
                go_wp2
                go_round
                case rel => exact ⟨i + 1, by omega, by go_num⟩
                case measure => simp [intOf] <;> omega
          · obtain rfl : q = i := by omega
            clear hT2
            go_wp2_with fail
            refine (awake_any _).mono ?_
            rintro e w41 ⟨rfl, hbn⟩
            replace hb := hb.trans (hbn.mono hb.size)
            clear hbn
            go_wp2
            go_ret
            exact ⟨rfl, hb⟩
end Go.Proofs.Ytilnbiaabhdfgaa
