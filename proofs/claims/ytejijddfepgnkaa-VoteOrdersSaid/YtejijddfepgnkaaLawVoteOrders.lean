/-
  The walk of VoteOrders.
-/
import Derived.Test.YtejijddfepgnkaaOrdPlain
import Derived.Test.YtejijddfepgnkaaVoteBase
import Derived.Test.YtejijddfepgnkaaMarginsApi
namespace Go.Proofs.Ytejijddfepgnkaa
open Go.RowKit
set_option linter.unusedVariables false
set_option linter.unusedSimpArgs false


theorem toN_up (o : List Nat) : toN (up o) = o := by simp [toN, up, Function.comp_def]
theorem rowsZ_get {M : Mat} {n a : Nat} (ha : a < n) : (rowsZ M n).getD a [] = rowZ M n a := by
  simp [rowsZ, List.getD_eq_getElem?_getD, ha]
theorem rowZ_get {M : Mat} {n a b : Nat} (hb : b < n) : (rowZ M n a).getD b 0 = M a b := by
  simp [rowZ, List.getD_eq_getElem?_getD, hb]
theorem rowsZ_length (M : Mat) (n : Nat) : (rowsZ M n).length = n := by simp [rowsZ]
/-- A number of the matrix that came back. -/
theorem mat_read {w : World} {B n a b : Nat} {X : Option Addr} {M : Mat} (h : RowsA w B X (rowsZ M n)) (ha : a < n) (hb : b < n) :
    ∃ bx ox ba oa ca, X = some ⟨bx, ox, none⟩ ∧ bx < B ∧ w.cell? ⟨bx, ox + a, none⟩ = some (.slice (some ⟨ba, oa, none⟩) n ca) ∧ ba < B ∧ w.cell? ⟨ba, oa + b, none⟩ = some (.int .i64 (M a b)) := by
  obtain ⟨bx, ox, A', n', c', hX, hbx, hc, hx, hle, hI⟩ := h.at_ (k := a) (by rw [rowsZ_length]; exact ha)
  rw [rowsZ_get ha] at hx hI
  obtain rfl : n = n' := by have := hx.out; rw [rowZ_len] at this; exact this
  obtain ⟨ba, oa, x, rfl, hba, hc2, hx2⟩ := hI.at_ (k := b) (by rw [rowZ_len]; exact hb)
  have := hx2.out
  rw [rowZ_get hb] at this
  exact ⟨bx, ox, ba, oa, c', hX, hbx, hc, hba, by rw [hc2, this]⟩
def Cyc (W : List (List Nat)) (a b c : Nat) : Prop := 0 < marg W a b ∧ 0 < marg W b c ∧ 0 < marg W c a
def PlainTo (W : List (List Nat)) (n a : Nat) : Prop := ∀ a', a' < a → (∀ b, b < a' → marg W a' b ≠ 0) ∧ ∀ b, b < n → ∀ c, c < n → ¬ Cyc W a' b c

set_option maxRecDepth 100000 in
set_option maxHeartbeats 3200000 in
theorem voteOrders_any (A : Option Addr) (n c : Nat) (L : List (List Int)) (X : Option Addr) (m cm : Nat) (l : List Int) (w : World) (hn : L.length = n) (hlen : n ≤ 9223372036854775807) (hrow : ∀ l ∈ L, l.length ≤ 9223372036854775807) (hA : RowsA w w.heap.size A L)
    (hm : l.length = m) (hmc : m ≤ cm) (hlm : m ≤ 9223372036854775807) (hX : IntsA w w.heap.size X l) :
    Calls Try.prog 7 #[.slice A n c, .slice X m cm] w fun e w' => e = .returned (.bool true) ∧ Below w.heap.size w w' := by
  obtain ⟨q, hq⟩ : ∃ q, (fewV L).length = q := ⟨_, rfl⟩
  obtain ⟨q2, hq2⟩ : ∃ q2, (l.take 11).length = q2 := ⟨_, rfl⟩
  have HFE := hide (vew_in (c := c) hn hlen hrow hq hA)
  have HLI := hide (vlist_in hm hmc hlm hq2 hX)
  have hq211 : q2 ≤ 11 := by rw [← hq2, List.length_take]; omega
  cases hv : votesB L
  · have HMN : Hid (∀ A' c' w1, RowsA w1 w1.heap.size A' (fewV L) → Calls Try.prog 33 #[.slice A' q c'] w1 fun e w' => e = .returned (.tuple #[.slice none 0 0, .int .i64 2]) ∧ Below w1.heap.size w1 w') := fun A' c' w1 h => Margins_no A' q c' (fewV L) w1 hq (by rw [← hq]; exact vew_len L) (vew_rows L) h (by rw [vew_valid]; exact hv)
    clear hv hrow hn hA hq hm hX hq2
    go_enter Try.func7, Try.ntmps7
    have hb := Below.refl w.heap.size w
    go_wp2_with fail
    refine (HFE.out _ hb).mono ?_
    rintro e w1 ⟨A1, c1, rfl, hq1, hR1, hbn⟩
    replace hb := hb.trans (hbn.mono hb.size)
    clear hbn
    go_wp2_with fail
    refine (HMN.out _ _ _ hR1).mono ?_
    rintro e w2 ⟨rfl, hbn⟩
    replace hR1 := hR1.next hbn
    replace hb := hb.trans (hbn.mono hb.size)
    clear hbn
    clear hR1
    go_wp2_with fail
    refine (awake_any _).mono ?_
    rintro e w3 ⟨rfl, hbn⟩
    replace hb := hb.trans (hbn.mono hb.size)
    clear hbn
    go_wp2
    go_ret
    exact ⟨rfl, hb⟩
  · have hqn : q = n := by rw [← hq, vew_same hv, hn]
    subst hqn
    rw [vew_same hv] at HFE
    obtain ⟨k, W, hW, -⟩ := votes_of hv hn
    have hk5 := hW.ok.nle
    have hv9 := hW.ok.le
    have hWl : W.length = q := hW.ok.len
    have hWo : ∀ l ∈ W, Ord l k := fun l hl => by
      obtain ⟨i, hi, rfl⟩ := List.getElem_of_mem hl
      have := hW.ok.rows i (by rw [← hWl]; exact hi)
      rwa [List.getD_eq_getElem?_getD, List.getElem?_eq_getElem hi] at this
    have HMY : Hid (∀ A' c' w1, RowsA w1 w1.heap.size A' L → Calls Try.prog 33 #[.slice A' q c'] w1 fun e w' => ∃ X c', e = .returned (.tuple #[.slice X k c', .int .i64 0]) ∧ k ≤ c' ∧ RowsA w' w'.heap.size X (rowsZ (margM W) k) ∧ Below w1.heap.size w1 w') := fun A' c' w1 h => Margins_yes A' q k c' W w1 hW.ok (by rw [hW.eq]; exact h) hW.valid
    have HKY : Hid (∀ A' c' w1, RowsA w1 w1.heap.size A' L → Calls Try.prog 28 #[.slice A' q c'] w1 fun e w' => ∃ X cx, e = .returned (.tuple #[.slice X k cx, .int .i64 (disN W (kemO W k) : Nat), .int .i64 0]) ∧ k ≤ cx ∧ IntsA w' w'.heap.size X (up (kemO W k)) ∧ Below w1.heap.size w1 w') := fun A' c' w1 h =>
      (Kemeny_yes A' q k c' W w1 hW.ok (by rw [hW.eq]; exact h) hW.valid).mono fun e w' ⟨X, cx, h1, h2, h3, h4, _⟩ => ⟨X, cx, h1, h2, h3, h4⟩
    have HDO : Hid (∀ A' c' X' cx w1, RowsA w1 w1.heap.size A' L → k ≤ cx → IntsA w1 w1.heap.size X' (up (kemO W k)) → Calls Try.prog 27 #[.slice A' q c', .slice X' k cx] w1 fun e w' => e = .returned (.tuple #[.int .i64 (disN W (kemO W k) : Nat), .int .i64 0]) ∧ Below w1.heap.size w1 w') := fun A' c' X' cx w1 h h2 h3 => by
      have ho := (kemO_spec W k).1
      have := Disagreement_yes A' X' q k c' k cx W (up (kemO W k)) w1 hW.ok (by rw [hW.eq]; exact h) hW.valid (by rw [up_length, ho.len]) h2 (by omega) h3
      rw [ord_B ho, toN_up] at this
      exact this
    have HDY : Hid (∀ A' c' X' cx w1, RowsA w1 w1.heap.size A' L → q2 ≤ cx → IntsA w1 w1.heap.size X' (l.take 11) → Calls Try.prog 27 #[.slice A' q c', .slice X' q2 cx] w1 fun e w' => ∃ x y : Int, e = .returned (.tuple #[.int .i64 x, .int .i64 y]) ∧ (y = 0 ∧ (disN W (kemO W k) : Nat) ≤ x ∨ y = 2) ∧ Below w1.heap.size w1 w') := fun A' c' X' cx w1 h h2 h3 => by
      have := Disagreement_yes A' X' q k c' q2 cx W (l.take 11) w1 hW.ok (by rw [hW.eq]; exact h) hW.valid hq2 h2 (by omega) h3
      rw [vtake_ord hk5] at this
      refine this.mono ?_
      rintro e w' ⟨rfl, hb⟩
      cases ho : ordB l k with
      | true =>
        obtain ⟨hul, hoo⟩ := ord_of ho
        rw [vtake_same hk5 ho]
        exact ⟨_, 0, rfl, .inl ⟨rfl, by have := kemO_le W hoo; omega⟩, hb⟩
      | false => exact ⟨0, 2, rfl, .inr rfl, hb⟩
    have hge := dis_ge W (kemO_spec W k).1
    have heq : Hid (PlainTo W k k → disN W (kemO W k) = pS (les W) (List.range k)) := fun hp => by
      refine dis_eq hWo (fun a b ha hb hab => ?_) (fun a b c ha hb hc => (hp a ha).2 b hb c hc)
      rcases Nat.lt_or_ge b a with h | h
      · exact (hp a ha).1 b h
      · have h1 := (hp b hb).1 a (by omega)
        have h2 := (rdC_marg hWo ha hb hab).2
        have h3 := (rdC_marg hWo hb ha (fun e => hab e.symm)).2
        omega
    have hdk : disN W (kemO W k) ≤ 225 := by
      have := disN_le (kemO W k) (by rw [(kemO_spec W k).1.len]; exact hk5) W
      rw [hWl] at this; omega
    have HMR : Hid (∀ w1 B X, RowsA w1 B X (rowsZ (margM W) k) → ∀ a b, a < k → b < k → ∃ bx ox ba oa ca, X = some ⟨bx, ox, none⟩ ∧ bx < B ∧ w1.cell? ⟨bx, ox + a, none⟩ = some (.slice (some ⟨ba, oa, none⟩) k ca) ∧ ba < B ∧ w1.cell? ⟨ba, oa + b, none⟩ = some (.int .i64 (marg W a b))) := fun w1 B X h a b ha hb => by
      have := mat_read h ha hb
      rwa [margM_eq hW.ok ha hb] at this
    generalize kemO W k = ok at *
    generalize disN W ok = dk at *
    have HGE := hide hge
    have HWO := hide hWo
    have HWL := hide hWl
    clear hv hrow hn hA hq hm hX hq2 hW hWo hWl hge
    go_enter Try.func7, Try.ntmps7
    have hb := Below.refl w.heap.size w
    go_wp2_with fail
    refine (HFE.out _ hb).mono ?_
    rintro e w1 ⟨A1, c1, rfl, hq1, hR1, hbn⟩
    replace hb := hb.trans (hbn.mono hb.size)
    clear hbn
    go_wp2_with fail
    refine (HMY.out _ _ _ hR1).mono ?_
    rintro e w2 ⟨X2, d2, rfl, hd2, hRM, hbn⟩
    replace hR1 := hR1.next hbn
    replace hb := hb.trans (hbn.mono hb.size)
    clear hbn
    clear hR1
    go_wp2_with fail
    refine (HFE.out _ hb).mono ?_
    rintro e w3 ⟨A3, c3, rfl, hq3, hR1, hbn⟩
    replace hRM := hRM.next hbn
    replace hb := hb.trans (hbn.mono hb.size)
    clear hbn
    go_wp2_with fail
    refine (HKY.out _ _ _ hR1).mono ?_
    rintro e w4 ⟨X4, d4, rfl, hd4, hKI, hbn⟩
    replace hRM := hRM.next hbn
    replace hR1 := hR1.next hbn
    replace hb := hb.trans (hbn.mono hb.size)
    clear hbn
    clear hR1
    go_wp2_with fail
    refine (HFE.out _ hb).mono ?_
    rintro e w5 ⟨A5, c5, rfl, hq5, hR1, hbn⟩
    replace hRM := hRM.next hbn
    replace hKI := hKI.next hbn
    replace hb := hb.trans (hbn.mono hb.size)
    clear hbn
    go_wp2_with fail
    refine (HDO.out _ _ _ _ _ hR1 hd4 hKI).mono ?_
    rintro e w6 ⟨rfl, hbn⟩
    replace hRM := hRM.next hbn
    replace hKI := hKI.next hbn
    replace hR1 := hR1.next hbn
    replace hb := hb.trans (hbn.mono hb.size)
    clear hbn
    clear hR1 hKI
    go_wp2_with fail
    refine (HFE.out _ hb).mono ?_
    rintro e w7 ⟨A7, c7, rfl, hq7, hR1, hbn⟩
    replace hRM := hRM.next hbn
    replace hb := hb.trans (hbn.mono hb.size)
    clear hbn
    go_wp2_with fail
    refine (HLI.out _ hb).mono ?_
    rintro e w8 ⟨X8, d8, rfl, hd8, hOI, hbn⟩
    replace hRM := hRM.next hbn
    replace hR1 := hR1.next hbn
    replace hb := hb.trans (hbn.mono hb.size)
    clear hbn
    go_wp2_with fail
    refine (HDY.out _ _ _ _ _ hR1 hd8 hOI).mono ?_
    rintro e w9 ⟨x9, y9, rfl, hxy, hbn⟩
    replace hRM := hRM.next hbn
    replace hR1 := hR1.next hbn
    replace hOI := hOI.next hbn
    replace hb := hb.trans (hbn.mono hb.size)
    clear hbn
    clear hR1 hOI
    obtain ⟨w0, hw0⟩ : ∃ w0 : World, w0 = w9 := ⟨_, rfl⟩
    subst hw0
    have HRM := hide hRM
    have HB := hide hb
    clear hRM hb
    rcases hxy with ⟨rfl, hx9⟩ | rfl
    · have hx9' : ¬ (x9 < (dk : Int)) := by omega
      clear hx9
      go_wp2_with fail
      go_loopw [13, 14, 84] (fun s p i wr => ∃ (a : Nat) (pl : Bool), a ≤ k ∧ i = .int .i64 a ∧ s = .int .i64 (pS (les W) (List.range a) : Nat) ∧ p = .bool pl ∧ Hid (pl = true → PlainTo W k a) ∧ Below w0.heap.size w0 wr) (fun _ _ i _ => k - (intOf i).toNat)
      case atStart => exact ⟨0, true, Nat.zero_le _, rfl, rfl, rfl, fun _ a ha => absurd ha (by omega), Below.refl _ _⟩
      case round =>
        obtain ⟨a, pl, ha, rfl, rfl, rfl, hpl, hbel⟩ := hrel
        by_cases hlt : a < k
        · have HPL := hide hpl
          have HB1 := hide hbel
          have hpsb := pS_bd (W := W) a
          rw [HWL.out] at hpsb
          have hps2 : a * a * q ≤ 4 * 4 * 9 := Nat.mul_le_mul (Nat.mul_le_mul (by omega) (by omega)) hv9
          have hpsr := pS_range_succ (les W) a
          have HPR := hide hpsr
          obtain ⟨s0, hs0⟩ : ∃ s0, pS (les W) (List.range a) = s0 := ⟨_, rfl⟩
          have HS0 := hide hs0
          rw [hs0] at hpsb ⊢
          clear hpl hbel hpsr hs0
          go_wp2_with fail
          obtain ⟨wp, rfl⟩ : ∃ wp : World, wp = wr := ⟨_, rfl⟩
          go_loopw [13, 14, 88] (fun s p i wr => ∃ (b : Nat) (pl : Bool), b ≤ a ∧ i = .int .i64 b ∧ s = .int .i64 (s0 + ((List.range b).map fun y => les W y a).sum : Nat) ∧ p = .bool pl ∧ Hid (pl = true → PlainTo W k a ∧ ∀ b', b' < b → marg W a b' ≠ 0) ∧ Below w0.heap.size w0 wr) (fun _ _ i _ => a - (intOf i).toNat)
          case atStart => exact ⟨0, pl, Nat.zero_le _, rfl, by simp, rfl, fun h => ⟨HPL.out h, fun b' hb' => absurd hb' (by omega)⟩, HB1.out⟩
          case round =>
            obtain ⟨b, pl2, hba, rfl, rfl, rfl, hpl2, hbel2⟩ := hrel
            have HPL2 := hide hpl2
            have HB2 := hide hbel2
            have hsz2 := hbel2.size
            by_cases hltb : b < a
            · obtain ⟨bx, ox, xa, oa, ca, rfl, hbx, hcx, hxa, hcm⟩ := HMR.out wr w0.heap.size X2 (HRM.out.below hbel2) a b hlt (by omega)
              have hlm := les_marg HWO.out (a := a) (b := b) hlt (by omega) (by omega)
              rw [HWL.out] at hlm
              have hmb := marg_bd a b W
              rw [HWL.out] at hmb
              have hcs := col_succ (les W) a b
              have hcl := col_le (W := W) a b
              rw [HWL.out] at hcl
              have hcl2 : b * q ≤ 4 * 9 := Nat.mul_le_mul (by omega) hv9
              obtain ⟨mm, hmm⟩ : ∃ mm, marg W a b = mm := ⟨_, rfl⟩
              obtain ⟨hv, hhv⟩ : ∃ hv, les W b a = hv := ⟨_, rfl⟩
              obtain ⟨cs, hcse⟩ : ∃ cs, ((List.range b).map fun y => les W y a).sum = cs := ⟨_, rfl⟩
              rw [hmm] at hcm hlm hmb
              rw [hhv] at hlm hcs
              rw [hcse] at hcs hcl ⊢
              have HMM := hide hmm
              have HCS := hide hcs
              obtain ⟨mx, hmx⟩ : ∃ mx, (if mm < -mm then -mm else mm) = mx := ⟨_, rfl⟩
              have hmx2 : mx = max mm (-mm) := by rw [← hmx]; split <;> omega
              rw [← hmx2] at hlm
              obtain ⟨dd, hdd⟩ : ∃ dd : Int, (q : Int) - mx = dd := ⟨_, rfl⟩
              rw [hdd] at hlm
              have hdd0 : 0 ≤ dd ∧ dd ≤ 9 := by omega
              have hneg : IntKind.i64.wrap (-mm) = -mm := by rw [IntKind.wrap_i64]; omega
              have hwd : IntKind.i64.wrap ((q : Int) - mx) = dd := by rw [IntKind.wrap_i64]; omega
              have hwd2 : IntKind.i64.wrap dd = dd := by rw [IntKind.wrap_i64]; omega
              have hwh : IntKind.i64.wrap (hv : Int) = (hv : Int) := by rw [IntKind.wrap_i64]; omega
              have htd : dd.tdiv 2 = (hv : Int) := by rw [Int.tdiv_eq_ediv_of_nonneg hdd0.1]; omega
              have hwq : IntKind.i64.wrap (dd.tdiv 2) = (hv : Int) := by rw [htd, IntKind.wrap_i64]; omega
              have hws : IntKind.i64.wrap (((s0 + cs : Nat) : Int) + (hv : Int)) = ((s0 + cs + hv : Nat) : Int) := by rw [IntKind.wrap_i64]; omega
              have hws2 : IntKind.i64.wrap ((s0 : Int) + (cs : Int) + (hv : Int)) = ((s0 + cs + hv : Nat) : Int) := by rw [IntKind.wrap_i64]; omega
              have hbxw : bx < wr.heap.size := by omega
              have hxaw : xa < wr.heap.size := by omega
              have hak : ¬ ((k : Int) ≤ (a : Int)) := by omega
              have hbk : ¬ ((k : Int) ≤ (b : Int)) := by omega
              have hak2 : ¬ k ≤ a := by omega
              have hbk2 : ¬ k ≤ b := by omega
              clear hpl2 hbel2 hmm hcs hlm hmx2 hcse
              go_wp2_with fail
              refine wp_region_below (by kernel_rfl) (by kernel_rfl) ?_
              refine wpQuiet_val' (.int .i64 (s0 + cs : Nat)) (by rfl) (fun w' hw' => by go_simp) ?_
              simp only [put_lit, List.set_cons_succ, List.set_cons_zero]
              refine wpQuiet_val' (.slice A q c) (by rfl) (fun w' hw' => by go_simp) ?_
              simp only [put_lit, List.set_cons_succ, List.set_cons_zero]
              refine wpQuiet_val' (.int .i64 q) (by rfl) (fun w' hw' => by go_simp) ?_
              simp only [put_lit, List.set_cons_succ, List.set_cons_zero]
              refine wpQuiet_val' (.slice (some ⟨bx, ox, none⟩) k d2) (by rfl) (fun w' hw' => by go_simp) ?_
              simp only [put_lit, List.set_cons_succ, List.set_cons_zero]
              refine wpQuiet_val' (.int .i64 (a : Nat)) (by rfl) (fun w' hw' => by go_simp) ?_
              simp only [put_lit, List.set_cons_succ, List.set_cons_zero]
              refine wpQuiet_val' (.pointer (some ⟨bx, ox + a, none⟩)) (by rfl) (fun w' hw' => by go_simp) ?_
              simp only [put_lit, List.set_cons_succ, List.set_cons_zero]
              refine wpQuiet_val' (.slice (some ⟨xa, oa, none⟩) k ca) (by rfl) (fun w' hw' => by have e0 := (hw'.cell (p := ⟨bx, ox + a, none⟩) hbxw).trans hcx; go_simp) ?_
              simp only [put_lit, List.set_cons_succ, List.set_cons_zero]
              refine wpQuiet_val' (.int .i64 (b : Nat)) (by rfl) (fun w' hw' => by go_simp) ?_
              simp only [put_lit, List.set_cons_succ, List.set_cons_zero]
              refine wpQuiet_val' (.pointer (some ⟨xa, oa + b, none⟩)) (by rfl) (fun w' hw' => by go_simp) ?_
              simp only [put_lit, List.set_cons_succ, List.set_cons_zero]
              refine wpQuiet_val' (.int .i64 mm) (by rfl) (fun w' hw' => by have e0 := (hw'.cell (p := ⟨xa, oa + b, none⟩) hxaw).trans hcm; go_simp) ?_
              simp only [put_lit, List.set_cons_succ, List.set_cons_zero]
              refine wpQuiet_val' (.slice (some ⟨bx, ox, none⟩) k d2) (by rfl) (fun w' hw' => by go_simp) ?_
              simp only [put_lit, List.set_cons_succ, List.set_cons_zero]
              refine wpQuiet_val' (.int .i64 (a : Nat)) (by rfl) (fun w' hw' => by go_simp) ?_
              simp only [put_lit, List.set_cons_succ, List.set_cons_zero]
              refine wpQuiet_val' (.pointer (some ⟨bx, ox + a, none⟩)) (by rfl) (fun w' hw' => by go_simp) ?_
              simp only [put_lit, List.set_cons_succ, List.set_cons_zero]
              refine wpQuiet_val' (.slice (some ⟨xa, oa, none⟩) k ca) (by rfl) (fun w' hw' => by have e0 := (hw'.cell (p := ⟨bx, ox + a, none⟩) hbxw).trans hcx; go_simp) ?_
              simp only [put_lit, List.set_cons_succ, List.set_cons_zero]
              refine wpQuiet_val' (.int .i64 (b : Nat)) (by rfl) (fun w' hw' => by go_simp) ?_
              simp only [put_lit, List.set_cons_succ, List.set_cons_zero]
              refine wpQuiet_val' (.pointer (some ⟨xa, oa + b, none⟩)) (by rfl) (fun w' hw' => by go_simp) ?_
              simp only [put_lit, List.set_cons_succ, List.set_cons_zero]
              refine wpQuiet_val' (.int .i64 mm) (by rfl) (fun w' hw' => by have e0 := (hw'.cell (p := ⟨xa, oa + b, none⟩) hxaw).trans hcm; go_simp) ?_
              simp only [put_lit, List.set_cons_succ, List.set_cons_zero]
              refine wpQuiet_val' (.int .i64 (-mm)) (by rfl) (fun w' hw' => by go_simp) ?_
              simp only [put_lit, List.set_cons_succ, List.set_cons_zero]
              refine wpQuiet_val' (.int .i64 mx) (by rfl) (fun w' hw' => by go_simp) ?_
              simp only [put_lit, List.set_cons_succ, List.set_cons_zero]
              refine wpQuiet_val' (.int .i64 dd) (by rfl) (fun w' hw' => by go_simp) ?_
              simp only [put_lit, List.set_cons_succ, List.set_cons_zero]
              refine wpQuiet_val' (.int .i64 (hv : Nat)) (by rfl) (fun w' hw' => by go_simp) ?_
              simp only [put_lit, List.set_cons_succ, List.set_cons_zero]
              refine wpQuiet_val' (.int .i64 (s0 + cs + hv : Nat)) (by rfl) (fun w' hw' => by go_simp) ?_
              simp only [put_lit, List.set_cons_succ, List.set_cons_zero]
              refine wpQuiet_val' (.int .i64 (s0 + cs + hv : Nat)) (by rfl) (fun w' hw' => by go_simp) ?_
              simp only [put_lit, List.set_cons_succ, List.set_cons_zero]
              refine wpQuiet_nil ?_
              intro w9 hb9
              have hcx9 := (hb9.cell (p := ⟨bx, ox + a, none⟩) hbxw).trans hcx
              have hcm9 := (hb9.cell (p := ⟨xa, oa + b, none⟩) hxaw).trans hcm
              have HB9 := hide (HB2.out.trans (hb9.mono hsz2))
              clear hcx hcm hb9 hneg hwd hwd2 hwh htd hwq hws hws2 hmx hdd
              by_cases hm0 : mm = 0
              · have hm1 : (mm != 0) = false := by simp [hm0]
                clear hm0
                cases pl2 with
                | true =>
                  go_wp2
                  go_roundw
                  case rel => exact ⟨b + 1, false, by omega, by go_num, by rw [HCS.out]; go_num, rfl, fun h => (by cases h), HB9.out⟩
                  case measure => simp [intOf]; omega
                | false =>
                  go_wp2
                  go_roundw
                  case rel => exact ⟨b + 1, false, by omega, by go_num, by rw [HCS.out]; go_num, rfl, fun h => (by cases h), HB9.out⟩
                  case measure => simp [intOf]; omega
              · have hm1 : (mm != 0) = true := by simp [hm0]
                have HM0 : Hid (¬ mm = 0) := hm0
                clear hm0
                cases pl2 with
                | true =>
                  go_wp2
                  go_roundw
                  case rel =>
                    refine ⟨b + 1, true, by omega, by go_num, by rw [HCS.out]; go_num, rfl, fun _ => ⟨(HPL2.out rfl).1, fun b' hb' => ?_⟩, HB9.out⟩
                    by_cases e : b' = b
                    · subst e; rw [HMM.out]; exact HM0.out
                    · exact (HPL2.out rfl).2 b' (by omega)
                  case measure => simp [intOf]; omega
                | false =>
                  go_wp2
                  go_roundw
                  case rel => exact ⟨b + 1, false, by omega, by go_num, by rw [HCS.out]; go_num, rfl, fun h => (by cases h), HB9.out⟩
                  case measure => simp [intOf]; omega
            · obtain rfl : a = b := by omega
              clear hpl2 hbel2
              go_wp2_with fail
              obtain ⟨wp2, rfl⟩ : ∃ wp : World, wp = wr := ⟨_, rfl⟩
              go_loopw [14, 127] (fun p i wr => ∃ (b : Nat) (pl : Bool), b ≤ k ∧ i = .int .i64 b ∧ p = .bool pl ∧ Hid (pl = true → (PlainTo W k a ∧ ∀ b', b' < a → marg W a b' ≠ 0) ∧ ∀ b', b' < b → ∀ c, c < k → ¬ Cyc W a b' c) ∧ Below w0.heap.size w0 wr) (fun _ i _ => k - (intOf i).toNat)
              case atStart => exact ⟨0, pl2, Nat.zero_le _, rfl, rfl, fun h => ⟨HPL2.out h, fun b' hb' => absurd hb' (by omega)⟩, HB2.out⟩
              case round =>
                obtain ⟨b, pl3, hbk, rfl, rfl, hpl3, hbel3⟩ := hrel
                have HPL3 := hide hpl3
                have HB3 := hide hbel3
                clear hpl3 hbel3
                by_cases hltb : b < k
                · go_wp2_with fail
                  obtain ⟨wp3, rfl⟩ : ∃ wp : World, wp = wr := ⟨_, rfl⟩
                  go_loopw [14, 132] (fun p i wr => ∃ (c : Nat) (pl : Bool), c ≤ k ∧ i = .int .i64 c ∧ p = .bool pl ∧ Hid (pl = true → ((PlainTo W k a ∧ ∀ b', b' < a → marg W a b' ≠ 0) ∧ ∀ b', b' < b → ∀ c, c < k → ¬ Cyc W a b' c) ∧ ∀ c', c' < c → ¬ Cyc W a b c') ∧ Below w0.heap.size w0 wr) (fun _ i _ => k - (intOf i).toNat)
                  case atStart => exact ⟨0, pl3, Nat.zero_le _, rfl, rfl, fun h => ⟨HPL3.out h, fun c' hc' => absurd hc' (by omega)⟩, HB3.out⟩
                  case round =>
                    obtain ⟨c, pl4, hck, rfl, rfl, hpl4, hbel4⟩ := hrel
                    have HPL4 := hide hpl4
                    have HB4 := hide hbel4
                    by_cases hltc : c < k
                    · obtain ⟨bx, ox, xa, oa, ca, rfl, hbx, hcx, hxa, hcm⟩ := HMR.out wr w0.heap.size X2 (HRM.out.below hbel4) a b hlt hltb
                      obtain ⟨bx2, ox2, xb, ob, cb, hX2, hbx2, hcx2, hxb, hcm2⟩ := HMR.out wr w0.heap.size _ (HRM.out.below hbel4) b c hltb hltc
                      injection hX2 with hX2; injection hX2 with e1 e2
                      subst e1; subst e2
                      obtain ⟨bx3, ox3, xc, oc, cc, hX3, hbx3, hcx3, hxc, hcm3⟩ := HMR.out wr w0.heap.size _ (HRM.out.below hbel4) c a hltc hlt
                      injection hX3 with hX3; injection hX3 with e1 e2
                      subst e1; subst e2
                      have hcy : Cyc W a b c ↔ (0 < marg W a b ∧ 0 < marg W b c ∧ 0 < marg W c a) := Iff.rfl
                      generalize marg W a b = m1 at *
                      generalize marg W b c = m2 at *
                      generalize marg W c a = m3 at *
                      have HCY := hide hcy
                      clear hpl4 hbel4 hcy
                      by_cases g1 : 0 < m1
                      · by_cases g2 : 0 < m2
                        · by_cases g3 : 0 < m3
                          · have d1 : decide (0 < m1) = true := decide_eq_true g1
                            have d2 : decide (0 < m2) = true := decide_eq_true g2
                            have d3 : decide (0 < m3) = true := decide_eq_true g3
                            go_wp2
                            go_roundw
                            case rel => exact ⟨c + 1, false, by omega, by go_num, rfl, fun h => (by cases h), HB4.out⟩
                            case measure => simp [intOf]; omega
                          · have d3 : decide (0 < m3) = false := decide_eq_false g3
                            have HG : Hid (¬ 0 < m3) := g3
                            clear g3
                            go_wp2
                            go_roundw
                            case rel => exact ⟨c + 1, pl4, by omega, by go_num, rfl, fun h => ⟨(HPL4.out h).1, fun c' hc' => by
                              by_cases e : c' = c
                              · subst e; exact fun h9 => HG.out (HCY.out.1 h9).2.2
                              · exact (HPL4.out h).2 c' (by omega)⟩, HB4.out⟩
                            case measure => simp [intOf]; omega
                        · have d2 : decide (0 < m2) = false := decide_eq_false g2
                          have HG : Hid (¬ 0 < m2) := g2
                          clear g2
                          go_wp2
                          go_roundw
                          case rel => exact ⟨c + 1, pl4, by omega, by go_num, rfl, fun h => ⟨(HPL4.out h).1, fun c' hc' => by
                            by_cases e : c' = c
                            · subst e; exact fun h9 => HG.out (HCY.out.1 h9).2.1
                            · exact (HPL4.out h).2 c' (by omega)⟩, HB4.out⟩
                          case measure => simp [intOf]; omega
                      · have d1 : decide (0 < m1) = false := decide_eq_false g1
                        have HG : Hid (¬ 0 < m1) := g1
                        clear g1
                        go_wp2
                        go_roundw
                        case rel => exact ⟨c + 1, pl4, by omega, by go_num, rfl, fun h => ⟨(HPL4.out h).1, fun c' hc' => by
                          by_cases e : c' = c
                          · subst e; exact fun h9 => HG.out (HCY.out.1 h9).1
                          · exact (HPL4.out h).2 c' (by omega)⟩, HB4.out⟩
                        case measure => simp [intOf]; omega
                    · obtain rfl : k = c := by omega
                      clear hpl4 hbel4
                      go_wp2
                      go_roundw
                      case rel => exact ⟨b + 1, pl4, by omega, by go_num, rfl, fun h => ⟨(HPL4.out h).1.1, fun b' hb' c hc => by
                        by_cases e : b' = b
                        · subst e; exact (HPL4.out h).2 c hc
                        · exact (HPL4.out h).1.2 b' (by omega) c hc⟩, HB4.out⟩
                      case measure => simp [intOf]; omega
                · obtain rfl : k = b := by omega
                  go_wp2
                  go_roundw
                  case rel => exact ⟨a + 1, pl3, by omega, by go_num, by rw [HPR.out, HS0.out], rfl, fun h a' ha' => by
                    by_cases e : a' = a
                    · subst e; exact ⟨(HPL3.out h).1.2, (HPL3.out h).2⟩
                    · exact (HPL3.out h).1.1 a' (by omega), HB3.out⟩
                  case measure => simp [intOf]; omega
        · obtain rfl : k = a := by omega
          have hge := HGE.out
          have heq := heq.out
          generalize pS (les W) (List.range k) = S at *
          have HB1 := hide hbel
          cases pl with
          | true =>
            have hdS := heq (hpl.out rfl)
            subst hdS
            have hd1 : decide ((dk : Int) ≤ (dk : Int)) = true := by simp
            clear hpl hbel heq hge
            go_wp2_with (go_at_call 23; refine (awake_any _).mono ?_; rintro e w9 ⟨rfl, hb9⟩; have HB9 := hide hb9; clear hb9)
            go_ret
            exact ⟨rfl, (HB.out.trans (HB1.out.mono HB.out.size)).trans (HB9.out.mono (by have := HB.out.size; have := HB1.out.size; omega))⟩
          | false =>
            have hd1 : (S : Int) ≤ (dk : Int) := by omega
            clear hpl hbel heq hge
            go_wp2_with (go_at_call 23; refine (awake_any _).mono ?_; rintro e w9 ⟨rfl, hb9⟩; have HB9 := hide hb9; clear hb9)
            go_ret
            exact ⟨rfl, (HB.out.trans (HB1.out.mono HB.out.size)).trans (HB9.out.mono (by have := HB.out.size; have := HB1.out.size; omega))⟩
    · skip
      go_wp2_with fail
      go_loopw [13, 14, 84] (fun s p i wr => ∃ (a : Nat) (pl : Bool), a ≤ k ∧ i = .int .i64 a ∧ s = .int .i64 (pS (les W) (List.range a) : Nat) ∧ p = .bool pl ∧ Hid (pl = true → PlainTo W k a) ∧ Below w0.heap.size w0 wr) (fun _ _ i _ => k - (intOf i).toNat)
      case atStart => exact ⟨0, true, Nat.zero_le _, rfl, rfl, rfl, fun _ a ha => absurd ha (by omega), Below.refl _ _⟩
      case round =>
        obtain ⟨a, pl, ha, rfl, rfl, rfl, hpl, hbel⟩ := hrel
        by_cases hlt : a < k
        · have HPL := hide hpl
          have HB1 := hide hbel
          have hpsb := pS_bd (W := W) a
          rw [HWL.out] at hpsb
          have hps2 : a * a * q ≤ 4 * 4 * 9 := Nat.mul_le_mul (Nat.mul_le_mul (by omega) (by omega)) hv9
          have hpsr := pS_range_succ (les W) a
          have HPR := hide hpsr
          obtain ⟨s0, hs0⟩ : ∃ s0, pS (les W) (List.range a) = s0 := ⟨_, rfl⟩
          have HS0 := hide hs0
          rw [hs0] at hpsb ⊢
          clear hpl hbel hpsr hs0
          go_wp2_with fail
          obtain ⟨wp, rfl⟩ : ∃ wp : World, wp = wr := ⟨_, rfl⟩
          go_loopw [13, 14, 88] (fun s p i wr => ∃ (b : Nat) (pl : Bool), b ≤ a ∧ i = .int .i64 b ∧ s = .int .i64 (s0 + ((List.range b).map fun y => les W y a).sum : Nat) ∧ p = .bool pl ∧ Hid (pl = true → PlainTo W k a ∧ ∀ b', b' < b → marg W a b' ≠ 0) ∧ Below w0.heap.size w0 wr) (fun _ _ i _ => a - (intOf i).toNat)
          case atStart => exact ⟨0, pl, Nat.zero_le _, rfl, by simp, rfl, fun h => ⟨HPL.out h, fun b' hb' => absurd hb' (by omega)⟩, HB1.out⟩
          case round =>
            obtain ⟨b, pl2, hba, rfl, rfl, rfl, hpl2, hbel2⟩ := hrel
            have HPL2 := hide hpl2
            have HB2 := hide hbel2
            have hsz2 := hbel2.size
            by_cases hltb : b < a
            · obtain ⟨bx, ox, xa, oa, ca, rfl, hbx, hcx, hxa, hcm⟩ := HMR.out wr w0.heap.size X2 (HRM.out.below hbel2) a b hlt (by omega)
              have hlm := les_marg HWO.out (a := a) (b := b) hlt (by omega) (by omega)
              rw [HWL.out] at hlm
              have hmb := marg_bd a b W
              rw [HWL.out] at hmb
              have hcs := col_succ (les W) a b
              have hcl := col_le (W := W) a b
              rw [HWL.out] at hcl
              have hcl2 : b * q ≤ 4 * 9 := Nat.mul_le_mul (by omega) hv9
              obtain ⟨mm, hmm⟩ : ∃ mm, marg W a b = mm := ⟨_, rfl⟩
              obtain ⟨hv, hhv⟩ : ∃ hv, les W b a = hv := ⟨_, rfl⟩
              obtain ⟨cs, hcse⟩ : ∃ cs, ((List.range b).map fun y => les W y a).sum = cs := ⟨_, rfl⟩
              rw [hmm] at hcm hlm hmb
              rw [hhv] at hlm hcs
              rw [hcse] at hcs hcl ⊢
              have HMM := hide hmm
              have HCS := hide hcs
              obtain ⟨mx, hmx⟩ : ∃ mx, (if mm < -mm then -mm else mm) = mx := ⟨_, rfl⟩
              have hmx2 : mx = max mm (-mm) := by rw [← hmx]; split <;> omega
              rw [← hmx2] at hlm
              obtain ⟨dd, hdd⟩ : ∃ dd : Int, (q : Int) - mx = dd := ⟨_, rfl⟩
              rw [hdd] at hlm
              have hdd0 : 0 ≤ dd ∧ dd ≤ 9 := by omega
              have hneg : IntKind.i64.wrap (-mm) = -mm := by rw [IntKind.wrap_i64]; omega
              have hwd : IntKind.i64.wrap ((q : Int) - mx) = dd := by rw [IntKind.wrap_i64]; omega
              have hwd2 : IntKind.i64.wrap dd = dd := by rw [IntKind.wrap_i64]; omega
              have hwh : IntKind.i64.wrap (hv : Int) = (hv : Int) := by rw [IntKind.wrap_i64]; omega
              have htd : dd.tdiv 2 = (hv : Int) := by rw [Int.tdiv_eq_ediv_of_nonneg hdd0.1]; omega
              have hwq : IntKind.i64.wrap (dd.tdiv 2) = (hv : Int) := by rw [htd, IntKind.wrap_i64]; omega
              have hws : IntKind.i64.wrap (((s0 + cs : Nat) : Int) + (hv : Int)) = ((s0 + cs + hv : Nat) : Int) := by rw [IntKind.wrap_i64]; omega
              have hws2 : IntKind.i64.wrap ((s0 : Int) + (cs : Int) + (hv : Int)) = ((s0 + cs + hv : Nat) : Int) := by rw [IntKind.wrap_i64]; omega
              have hbxw : bx < wr.heap.size := by omega
              have hxaw : xa < wr.heap.size := by omega
              have hak : ¬ ((k : Int) ≤ (a : Int)) := by omega
              have hbk : ¬ ((k : Int) ≤ (b : Int)) := by omega
              have hak2 : ¬ k ≤ a := by omega
              have hbk2 : ¬ k ≤ b := by omega
              clear hpl2 hbel2 hmm hcs hlm hmx2 hcse
              go_wp2_with fail
              refine wp_region_below (by kernel_rfl) (by kernel_rfl) ?_
              refine wpQuiet_val' (.int .i64 (s0 + cs : Nat)) (by rfl) (fun w' hw' => by go_simp) ?_
              simp only [put_lit, List.set_cons_succ, List.set_cons_zero]
              refine wpQuiet_val' (.slice A q c) (by rfl) (fun w' hw' => by go_simp) ?_
              simp only [put_lit, List.set_cons_succ, List.set_cons_zero]
              refine wpQuiet_val' (.int .i64 q) (by rfl) (fun w' hw' => by go_simp) ?_
              simp only [put_lit, List.set_cons_succ, List.set_cons_zero]
              refine wpQuiet_val' (.slice (some ⟨bx, ox, none⟩) k d2) (by rfl) (fun w' hw' => by go_simp) ?_
              simp only [put_lit, List.set_cons_succ, List.set_cons_zero]
              refine wpQuiet_val' (.int .i64 (a : Nat)) (by rfl) (fun w' hw' => by go_simp) ?_
              simp only [put_lit, List.set_cons_succ, List.set_cons_zero]
              refine wpQuiet_val' (.pointer (some ⟨bx, ox + a, none⟩)) (by rfl) (fun w' hw' => by go_simp) ?_
              simp only [put_lit, List.set_cons_succ, List.set_cons_zero]
              refine wpQuiet_val' (.slice (some ⟨xa, oa, none⟩) k ca) (by rfl) (fun w' hw' => by have e0 := (hw'.cell (p := ⟨bx, ox + a, none⟩) hbxw).trans hcx; go_simp) ?_
              simp only [put_lit, List.set_cons_succ, List.set_cons_zero]
              refine wpQuiet_val' (.int .i64 (b : Nat)) (by rfl) (fun w' hw' => by go_simp) ?_
              simp only [put_lit, List.set_cons_succ, List.set_cons_zero]
              refine wpQuiet_val' (.pointer (some ⟨xa, oa + b, none⟩)) (by rfl) (fun w' hw' => by go_simp) ?_
              simp only [put_lit, List.set_cons_succ, List.set_cons_zero]
              refine wpQuiet_val' (.int .i64 mm) (by rfl) (fun w' hw' => by have e0 := (hw'.cell (p := ⟨xa, oa + b, none⟩) hxaw).trans hcm; go_simp) ?_
              simp only [put_lit, List.set_cons_succ, List.set_cons_zero]
              refine wpQuiet_val' (.slice (some ⟨bx, ox, none⟩) k d2) (by rfl) (fun w' hw' => by go_simp) ?_
              simp only [put_lit, List.set_cons_succ, List.set_cons_zero]
              refine wpQuiet_val' (.int .i64 (a : Nat)) (by rfl) (fun w' hw' => by go_simp) ?_
              simp only [put_lit, List.set_cons_succ, List.set_cons_zero]
              refine wpQuiet_val' (.pointer (some ⟨bx, ox + a, none⟩)) (by rfl) (fun w' hw' => by go_simp) ?_
              simp only [put_lit, List.set_cons_succ, List.set_cons_zero]
              refine wpQuiet_val' (.slice (some ⟨xa, oa, none⟩) k ca) (by rfl) (fun w' hw' => by have e0 := (hw'.cell (p := ⟨bx, ox + a, none⟩) hbxw).trans hcx; go_simp) ?_
              simp only [put_lit, List.set_cons_succ, List.set_cons_zero]
              refine wpQuiet_val' (.int .i64 (b : Nat)) (by rfl) (fun w' hw' => by go_simp) ?_
              simp only [put_lit, List.set_cons_succ, List.set_cons_zero]
              refine wpQuiet_val' (.pointer (some ⟨xa, oa + b, none⟩)) (by rfl) (fun w' hw' => by go_simp) ?_
              simp only [put_lit, List.set_cons_succ, List.set_cons_zero]
              refine wpQuiet_val' (.int .i64 mm) (by rfl) (fun w' hw' => by have e0 := (hw'.cell (p := ⟨xa, oa + b, none⟩) hxaw).trans hcm; go_simp) ?_
              simp only [put_lit, List.set_cons_succ, List.set_cons_zero]
              refine wpQuiet_val' (.int .i64 (-mm)) (by rfl) (fun w' hw' => by go_simp) ?_
              simp only [put_lit, List.set_cons_succ, List.set_cons_zero]
              refine wpQuiet_val' (.int .i64 mx) (by rfl) (fun w' hw' => by go_simp) ?_
              simp only [put_lit, List.set_cons_succ, List.set_cons_zero]
              refine wpQuiet_val' (.int .i64 dd) (by rfl) (fun w' hw' => by go_simp) ?_
              simp only [put_lit, List.set_cons_succ, List.set_cons_zero]
              refine wpQuiet_val' (.int .i64 (hv : Nat)) (by rfl) (fun w' hw' => by go_simp) ?_
              simp only [put_lit, List.set_cons_succ, List.set_cons_zero]
              refine wpQuiet_val' (.int .i64 (s0 + cs + hv : Nat)) (by rfl) (fun w' hw' => by go_simp) ?_
              simp only [put_lit, List.set_cons_succ, List.set_cons_zero]
              refine wpQuiet_val' (.int .i64 (s0 + cs + hv : Nat)) (by rfl) (fun w' hw' => by go_simp) ?_
              simp only [put_lit, List.set_cons_succ, List.set_cons_zero]
              refine wpQuiet_nil ?_
              intro w9 hb9
              have hcx9 := (hb9.cell (p := ⟨bx, ox + a, none⟩) hbxw).trans hcx
              have hcm9 := (hb9.cell (p := ⟨xa, oa + b, none⟩) hxaw).trans hcm
              have HB9 := hide (HB2.out.trans (hb9.mono hsz2))
              clear hcx hcm hb9 hneg hwd hwd2 hwh htd hwq hws hws2 hmx hdd
              by_cases hm0 : mm = 0
              · have hm1 : (mm != 0) = false := by simp [hm0]
                clear hm0
                cases pl2 with
                | true =>
                  go_wp2
                  go_roundw
                  case rel => exact ⟨b + 1, false, by omega, by go_num, by rw [HCS.out]; go_num, rfl, fun h => (by cases h), HB9.out⟩
                  case measure => simp [intOf]; omega
                | false =>
                  go_wp2
                  go_roundw
                  case rel => exact ⟨b + 1, false, by omega, by go_num, by rw [HCS.out]; go_num, rfl, fun h => (by cases h), HB9.out⟩
                  case measure => simp [intOf]; omega
              · have hm1 : (mm != 0) = true := by simp [hm0]
                have HM0 : Hid (¬ mm = 0) := hm0
                clear hm0
                cases pl2 with
                | true =>
                  go_wp2
                  go_roundw
                  case rel =>
                    refine ⟨b + 1, true, by omega, by go_num, by rw [HCS.out]; go_num, rfl, fun _ => ⟨(HPL2.out rfl).1, fun b' hb' => ?_⟩, HB9.out⟩
                    by_cases e : b' = b
                    · subst e; rw [HMM.out]; exact HM0.out
                    · exact (HPL2.out rfl).2 b' (by omega)
                  case measure => simp [intOf]; omega
                | false =>
                  go_wp2
                  go_roundw
                  case rel => exact ⟨b + 1, false, by omega, by go_num, by rw [HCS.out]; go_num, rfl, fun h => (by cases h), HB9.out⟩
                  case measure => simp [intOf]; omega
            · obtain rfl : a = b := by omega
              clear hpl2 hbel2
              go_wp2_with fail
              obtain ⟨wp2, rfl⟩ : ∃ wp : World, wp = wr := ⟨_, rfl⟩
              go_loopw [14, 127] (fun p i wr => ∃ (b : Nat) (pl : Bool), b ≤ k ∧ i = .int .i64 b ∧ p = .bool pl ∧ Hid (pl = true → (PlainTo W k a ∧ ∀ b', b' < a → marg W a b' ≠ 0) ∧ ∀ b', b' < b → ∀ c, c < k → ¬ Cyc W a b' c) ∧ Below w0.heap.size w0 wr) (fun _ i _ => k - (intOf i).toNat)
              case atStart => exact ⟨0, pl2, Nat.zero_le _, rfl, rfl, fun h => ⟨HPL2.out h, fun b' hb' => absurd hb' (by omega)⟩, HB2.out⟩
              case round =>
                obtain ⟨b, pl3, hbk, rfl, rfl, hpl3, hbel3⟩ := hrel
                have HPL3 := hide hpl3
                have HB3 := hide hbel3
                clear hpl3 hbel3
                by_cases hltb : b < k
                · go_wp2_with fail
                  obtain ⟨wp3, rfl⟩ : ∃ wp : World, wp = wr := ⟨_, rfl⟩
                  go_loopw [14, 132] (fun p i wr => ∃ (c : Nat) (pl : Bool), c ≤ k ∧ i = .int .i64 c ∧ p = .bool pl ∧ Hid (pl = true → ((PlainTo W k a ∧ ∀ b', b' < a → marg W a b' ≠ 0) ∧ ∀ b', b' < b → ∀ c, c < k → ¬ Cyc W a b' c) ∧ ∀ c', c' < c → ¬ Cyc W a b c') ∧ Below w0.heap.size w0 wr) (fun _ i _ => k - (intOf i).toNat)
                  case atStart => exact ⟨0, pl3, Nat.zero_le _, rfl, rfl, fun h => ⟨HPL3.out h, fun c' hc' => absurd hc' (by omega)⟩, HB3.out⟩
                  case round =>
                    obtain ⟨c, pl4, hck, rfl, rfl, hpl4, hbel4⟩ := hrel
                    have HPL4 := hide hpl4
                    have HB4 := hide hbel4
                    by_cases hltc : c < k
                    · obtain ⟨bx, ox, xa, oa, ca, rfl, hbx, hcx, hxa, hcm⟩ := HMR.out wr w0.heap.size X2 (HRM.out.below hbel4) a b hlt hltb
                      obtain ⟨bx2, ox2, xb, ob, cb, hX2, hbx2, hcx2, hxb, hcm2⟩ := HMR.out wr w0.heap.size _ (HRM.out.below hbel4) b c hltb hltc
                      injection hX2 with hX2; injection hX2 with e1 e2
                      subst e1; subst e2
                      obtain ⟨bx3, ox3, xc, oc, cc, hX3, hbx3, hcx3, hxc, hcm3⟩ := HMR.out wr w0.heap.size _ (HRM.out.below hbel4) c a hltc hlt
                      injection hX3 with hX3; injection hX3 with e1 e2
                      subst e1; subst e2
                      have hcy : Cyc W a b c ↔ (0 < marg W a b ∧ 0 < marg W b c ∧ 0 < marg W c a) := Iff.rfl
                      generalize marg W a b = m1 at *
                      generalize marg W b c = m2 at *
                      generalize marg W c a = m3 at *
                      have HCY := hide hcy
                      clear hpl4 hbel4 hcy
                      by_cases g1 : 0 < m1
                      · by_cases g2 : 0 < m2
                        · by_cases g3 : 0 < m3
                          · have d1 : decide (0 < m1) = true := decide_eq_true g1
                            have d2 : decide (0 < m2) = true := decide_eq_true g2
                            have d3 : decide (0 < m3) = true := decide_eq_true g3
                            go_wp2
                            go_roundw
                            case rel => exact ⟨c + 1, false, by omega, by go_num, rfl, fun h => (by cases h), HB4.out⟩
                            case measure => simp [intOf]; omega
                          · have d3 : decide (0 < m3) = false := decide_eq_false g3
                            have HG : Hid (¬ 0 < m3) := g3
                            clear g3
                            go_wp2
                            go_roundw
                            case rel => exact ⟨c + 1, pl4, by omega, by go_num, rfl, fun h => ⟨(HPL4.out h).1, fun c' hc' => by
                              by_cases e : c' = c
                              · subst e; exact fun h9 => HG.out (HCY.out.1 h9).2.2
                              · exact (HPL4.out h).2 c' (by omega)⟩, HB4.out⟩
                            case measure => simp [intOf]; omega
                        · have d2 : decide (0 < m2) = false := decide_eq_false g2
                          have HG : Hid (¬ 0 < m2) := g2
                          clear g2
                          go_wp2
                          go_roundw
                          case rel => exact ⟨c + 1, pl4, by omega, by go_num, rfl, fun h => ⟨(HPL4.out h).1, fun c' hc' => by
                            by_cases e : c' = c
                            · subst e; exact fun h9 => HG.out (HCY.out.1 h9).2.1
                            · exact (HPL4.out h).2 c' (by omega)⟩, HB4.out⟩
                          case measure => simp [intOf]; omega
                      · have d1 : decide (0 < m1) = false := decide_eq_false g1
                        have HG : Hid (¬ 0 < m1) := g1
                        clear g1
                        go_wp2
                        go_roundw
                        case rel => exact ⟨c + 1, pl4, by omega, by go_num, rfl, fun h => ⟨(HPL4.out h).1, fun c' hc' => by
                          by_cases e : c' = c
                          · subst e; exact fun h9 => HG.out (HCY.out.1 h9).1
                          · exact (HPL4.out h).2 c' (by omega)⟩, HB4.out⟩
                        case measure => simp [intOf]; omega
                    · obtain rfl : k = c := by omega
                      clear hpl4 hbel4
                      go_wp2
                      go_roundw
                      case rel => exact ⟨b + 1, pl4, by omega, by go_num, rfl, fun h => ⟨(HPL4.out h).1.1, fun b' hb' c hc => by
                        by_cases e : b' = b
                        · subst e; exact (HPL4.out h).2 c hc
                        · exact (HPL4.out h).1.2 b' (by omega) c hc⟩, HB4.out⟩
                      case measure => simp [intOf]; omega
                · obtain rfl : k = b := by omega
                  go_wp2
                  go_roundw
                  case rel => exact ⟨a + 1, pl3, by omega, by go_num, by rw [HPR.out, HS0.out], rfl, fun h a' ha' => by
                    by_cases e : a' = a
                    · subst e; exact ⟨(HPL3.out h).1.2, (HPL3.out h).2⟩
                    · exact (HPL3.out h).1.1 a' (by omega), HB3.out⟩
                  case measure => simp [intOf]; omega
        · obtain rfl : k = a := by omega
          have hge := HGE.out
          have heq := heq.out
          generalize pS (les W) (List.range k) = S at *
          have HB1 := hide hbel
          cases pl with
          | true =>
            have hdS := heq (hpl.out rfl)
            subst hdS
            have hd1 : decide ((dk : Int) ≤ (dk : Int)) = true := by simp
            clear hpl hbel heq hge
            go_wp2_with (go_at_call 23; refine (awake_any _).mono ?_; rintro e w9 ⟨rfl, hb9⟩; have HB9 := hide hb9; clear hb9)
            go_ret
            exact ⟨rfl, (HB.out.trans (HB1.out.mono HB.out.size)).trans (HB9.out.mono (by have := HB.out.size; have := HB1.out.size; omega))⟩
          | false =>
            have hd1 : (S : Int) ≤ (dk : Int) := by omega
            clear hpl hbel heq hge
            go_wp2_with (go_at_call 23; refine (awake_any _).mono ?_; rintro e w9 ⟨rfl, hb9⟩; have HB9 := hide hb9; clear hb9)
            go_ret
            exact ⟨rfl, (HB.out.trans (HB1.out.mono HB.out.size)).trans (HB9.out.mono (by have := HB.out.size; have := HB1.out.size; omega))⟩
end Go.Proofs.Ytejijddfepgnkaa
