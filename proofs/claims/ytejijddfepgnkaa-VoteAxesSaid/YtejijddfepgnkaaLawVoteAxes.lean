/-
  The walk of VoteAxes.
-/
import Derived.Test.YtejijddfepgnkaaAxesPlain
import Derived.Test.YtejijddfepgnkaaBendNo
import Derived.Test.YtejijddfepgnkaaVoteBase
import Derived.Test.YtejijddfepgnkaaAxisApi
import Derived.Test.YtejijddfepgnkaaEqual
namespace Go.Proofs.Ytejijddfepgnkaa
open Go.RowKit
set_option linter.unusedVariables false
set_option linter.unusedSimpArgs false

set_option maxRecDepth 100000 in
set_option maxHeartbeats 3200000 in
theorem voteAxes_any (A : Option Addr) (n c : Nat) (L : List (List Int)) (w : World) (hn : L.length = n) (hlen : n ≤ 9223372036854775807) (hrow : ∀ l ∈ L, l.length ≤ 9223372036854775807) (hA : RowsA w w.heap.size A L) :
    Calls Try.prog 14 #[.slice A n c] w fun e w' => e = .returned (.bool true) ∧ Below w.heap.size w w' := by
  obtain ⟨q, hq⟩ : ∃ q, (fewV L).length = q := ⟨_, rfl⟩
  have HFE := hide (vew_in (c := c) hn hlen hrow hq hA)
  have HVA := hide (refvalid_in (c := c) hn hlen hrow hA)
  cases hv : votesB L
  · have hq1 : q ≤ 9223372036854775807 := by rw [← hq]; exact vew_len L
    have HAN : Hid (∀ A' c' w1, RowsA w1 w1.heap.size A' (fewV L) → Calls Try.prog 37 #[.slice A' q c'] w1 fun e w' => e = .returned (.tuple #[.slice none 0 0, .int .i64 2]) ∧ Below w1.heap.size w1 w') := fun A' c' w1 h => Axis_no A' q c' (fewV L) w1 hq hq1 (vew_rows L) h (by rw [vew_valid]; exact hv)
    have HBN : Hid (∀ A' c' w1, RowsA w1 w1.heap.size A' (fewV L) → Calls Try.prog 47 #[.slice A' q c'] w1 fun e w' => e = .returned (.tuple #[.slice none 0 0, .slice none 0 0, .int .i64 2]) ∧ Below w1.heap.size w1 w') := fun A' c' w1 h => Bend_no A' q c' (fewV L) w1 hq hq1 (vew_rows L) h (by rw [vew_valid]; exact hv)
    rw [hv] at HVA
    clear hv hrow hn hA hq
    go_enter Try.func14, Try.ntmps14
    have hb := Below.refl w.heap.size w
    go_wp2_with fail
    refine (HFE.out _ hb).mono ?_
    rintro e w1 ⟨A1, c1, rfl, hq1, hR1, hbn⟩
    replace hb := hb.trans (hbn.mono hb.size)
    clear hbn
    go_wp2_with fail
    refine (HAN.out _ _ _ hR1).mono ?_
    rintro e w2 ⟨rfl, hbn⟩
    replace hR1 := hR1.next hbn
    replace hb := hb.trans (hbn.mono hb.size)
    clear hbn
    clear hR1
    go_wp2_with fail
    refine (HFE.out _ hb).mono ?_
    rintro e w3 ⟨A1, c1, rfl, hq1, hR1, hbn⟩
    replace hb := hb.trans (hbn.mono hb.size)
    clear hbn
    go_wp2_with fail
    refine (HBN.out _ _ _ hR1).mono ?_
    rintro e w4 ⟨rfl, hbn⟩
    replace hR1 := hR1.next hbn
    replace hb := hb.trans (hbn.mono hb.size)
    clear hbn
    clear hR1
    go_wp2_with fail
    refine (HVA.out _ hb).mono ?_
    rintro e w5 ⟨rfl, rfl⟩
    go_wp2_with fail
    refine (awake_any _).mono ?_
    rintro e w6 ⟨rfl, hbn⟩
    replace hb := hb.trans (hbn.mono hb.size)
    clear hbn
    go_wp2
    go_ret
    exact ⟨rfl, hb⟩
  · have hqn : q = n := by rw [← hq, vew_same hv, hn]
    subst hqn
    rw [vew_same hv] at HFE
    rw [hv] at HVA
    obtain ⟨k, W, hW, hk0⟩ := votes_of hv hn
    have hk5 := hW.ok.nle
    have hk1 := hW.ok.npos
    have hn9 := hW.ok.le
    have hax : axF W (List.range k) (List.range q) = axN W q k := rfl
    have HAY : Hid (∀ A' c' w1, RowsA w1 w1.heap.size A' L → Calls Try.prog 37 #[.slice A' q c'] w1 (AxisPost (axN W q k) k w1)) := fun A' c' w1 h => Axis_yes A' q k c' W w1 hW.ok (by rw [hW.eq]; exact h) hW.valid
    have HRA : Hid (∀ w1, Below w.heap.size w w1 → Calls Try.prog 48 #[.slice A q c] w1 (RAxisPost (axN W q k) k w1)) := fun w1 h => by
      have := refAxisTop_any A q k c W w1 hW.ok (by rw [hW.eq]; exact hA.next h)
      rwa [refAxF_all hW.ok] at this
    have HRB := hide (fun w1 (h : Below w.heap.size w w1) => refBend_any A q k c W w1 hW.ok (by rw [hW.eq]; exact hA.next h))
    have HEQ : Hid (∀ (X1 X2 : Option Addr) (c1 c2 m : Nat) (l : List Nat) w1, l.length = m → m ≤ 60 → IntsA w1 w1.heap.size X1 (up l) → IntsA w1 w1.heap.size X2 (up l) → Calls Try.prog 30 #[.slice X1 m c1, .slice X2 m c2] w1 fun e w' => e = .returned (.bool true) ∧ ∃ m, w' = w1.drewN m) := fun X1 X2 c1 c2 m l w1 hm hm5 h1 h2 => by
      have := equal_any X1 X2 m m c1 c2 w1.heap.size w1.heap.size (up l) (up l) w1 (by rw [up_length, hm]) (by rw [up_length, hm]) (by omega) h1 h2
      rwa [decide_eq_true rfl] at this
    cases ha : axN W q k with
    | some o =>
      rw [ha] at HAY hax HRA
      have HBA : Hid (∀ A' c' w1, RowsA w1 w1.heap.size A' L → Calls Try.prog 47 #[.slice A' q c'] w1 fun e w' => e = .returned (.tuple #[.slice none 0 0, .slice none 0 0, .int .i64 4]) ∧ Below w1.heap.size w1 w') := fun A' c' w1 h => Bend_axis A' q k c' W o w1 hW.ok hW.valid (by rw [hW.eq]; exact h) hax
      have HRB4 : Hid (∀ w1, Below w.heap.size w w1 → Calls Try.prog 49 #[.slice A q c] w1 fun e w' => e = .returned (.tuple #[.slice none 0 0, .slice none 0 0, .int .i64 4]) ∧ Below w1.heap.size w1 w') := fun w1 h =>
        (HRB.out w1 h).mono fun e w' h9 => ⟨h9.1.elim (fun ⟨k2, vv2, vs2, nm2, X, cx, Y, cy, h1, h2, h3, h4, h5, h6, h7, _⟩ => (all_none hW.ok ha h7).elim) fun h => h.2, h9.2⟩
      clear ha hax hv hrow hn hA hq hW HRB
      go_enter Try.func14, Try.ntmps14
      have hb := Below.refl w.heap.size w
      go_wp2_with fail
      refine (HFE.out _ hb).mono ?_
      rintro e w1 ⟨A1, c1, rfl, hq1, hR1, hbn⟩
      replace hb := hb.trans (hbn.mono hb.size)
      clear hbn
      go_wp2_with fail
      refine (HAY.out _ _ _ hR1).mono ?_
      rintro e w2 ⟨⟨X1, x1, rfl, hx1, hol, hK1⟩, hbn⟩
      replace hR1 := hR1.next hbn
      replace hb := hb.trans (hbn.mono hb.size)
      clear hbn
      clear hR1
      go_wp2_with fail
      refine (HFE.out _ hb).mono ?_
      rintro e w3 ⟨A1, c1, rfl, hq1, hR1, hbn⟩
      replace hK1 := hK1.next hbn
      replace hb := hb.trans (hbn.mono hb.size)
      clear hbn
      go_wp2_with fail
      refine (HBA.out _ _ _ hR1).mono ?_
      rintro e w4 ⟨rfl, hbn⟩
      replace hK1 := hK1.next hbn
      replace hR1 := hR1.next hbn
      replace hb := hb.trans (hbn.mono hb.size)
      clear hbn
      clear hR1
      go_wp2_with fail
      refine (HVA.out _ hb).mono ?_
      rintro e w5 ⟨rfl, rfl⟩
      go_wp2_with fail
      refine (HRA.out _ hb).mono ?_
      rintro e w6 ⟨⟨X2, x2, rfl, hx2, hol2, hK2⟩, hbn⟩
      replace hK1 := hK1.next hbn
      replace hb := hb.trans (hbn.mono hb.size)
      clear hbn
      go_wp2_with fail
      refine (HRB4.out _ hb).mono ?_
      rintro e w7 ⟨rfl, hbn⟩
      replace hK1 := hK1.next hbn
      replace hK2 := hK2.next hbn
      replace hb := hb.trans (hbn.mono hb.size)
      clear hbn
      go_wp2_with fail
      refine (HEQ.out _ _ _ _ _ _ _ hol (by omega) hK1 hK2).mono ?_
      rintro e w8 ⟨rfl, m8, rfl⟩
      replace hK1 := hK1.keep (w' := w7.drewN m8) fun _ _ => rfl
      replace hK2 := hK2.keep (w' := w7.drewN m8) fun _ _ => rfl
      replace hb := below_drewN hb m8
      replace hK1 := hK1.more (B' := (w7.drewN m8).heap.size) (Nat.le_refl _)
      replace hK2 := hK2.more (B' := (w7.drewN m8).heap.size) (Nat.le_refl _)
      generalize w7.drewN m8 = w8 at *
      clear hK1 hK2
      go_wp2_with fail
      refine (HEQ.out none none 0 0 0 [] _ rfl (by omega) IntsA.nil_ IntsA.nil_).mono ?_
      rintro e w9 ⟨rfl, m9, rfl⟩
      replace hb := below_drewN hb m9
      generalize w8.drewN m9 = w9 at *
      go_wp2_with fail
      refine (HEQ.out none none 0 0 0 [] _ rfl (by omega) IntsA.nil_ IntsA.nil_).mono ?_
      rintro e w10 ⟨rfl, m10, rfl⟩
      replace hb := below_drewN hb m10
      generalize w9.drewN m10 = w10 at *
      go_wp2_with fail
      refine (awake_any _).mono ?_
      rintro e w11 ⟨rfl, hbn⟩
      replace hb := hb.trans (hbn.mono hb.size)
      clear hbn
      go_wp2
      go_ret
      exact ⟨rfl, hb⟩
    | none =>
      rw [ha] at HAY hax HRA
      have hn3 := ax_three hW.ok ha
      have HBY := hide (fun A' c' w1 (h : RowsA w1 w1.heap.size A' L) => Bend_yes A' q k c' W w1 hW.ok hW.valid (by rw [hW.eq]; exact h) hax hn3)
      have HRB5 : Hid (∀ w1, Below w.heap.size w w1 → ∀ kk vv vs nm, 3 ≤ kk → kk ≤ k → 1 ≤ vv → vv ≤ q → BdNo W q k kk vv → bdN W q k kk vv = some (vs, nm) → Calls Try.prog 49 #[.slice A q c] w1 fun e w' => ∃ X cx Y cy, e = .returned (.tuple #[.slice X vv cx, .slice Y kk cy, .int .i64 0]) ∧ vv ≤ cx ∧ kk ≤ cy ∧ IntsA w' w'.heap.size X (up vs) ∧ IntsA w' w'.heap.size Y (up nm) ∧ Below w1.heap.size w1 w') := fun w1 h kk vv vs nm h1 h2 h3 h4 h5 h6 =>
        (HRB.out w1 h).mono fun e w' h9 => by
          obtain ⟨h9 | h9, h10⟩ := h9
          · obtain ⟨k2, vv2, vs2, nm2, X, cx, Y, cy, g1, g2, g3, g4, g5, g6, g7, g8, g9, g10, g11, g12, g13⟩ := h9
            obtain ⟨rfl, rfl, e3⟩ := same_first hW.ok h1 h2 h3 h4 h5 h6 g2 g3 g4 g5 g6 g7
            injection e3 with e3 e4
            subst e3; subst e4
            exact ⟨X, cx, Y, cy, g1, g10, g11, g12, g13, h10⟩
          · exact absurd h9.1 (not_all_none hW.ok h1 h2 h3 h4 h6)
      clear ha hax hv hrow hn hA hq hW HRB
      go_enter Try.func14, Try.ntmps14
      have hb := Below.refl w.heap.size w
      go_wp2_with fail
      refine (HFE.out _ hb).mono ?_
      rintro e w1 ⟨A1, c1, rfl, hq1, hR1, hbn⟩
      replace hb := hb.trans (hbn.mono hb.size)
      clear hbn
      go_wp2_with fail
      refine (HAY.out _ _ _ hR1).mono ?_
      rintro e w2 ⟨rfl, hbn⟩
      replace hR1 := hR1.next hbn
      replace hb := hb.trans (hbn.mono hb.size)
      clear hbn
      clear hR1
      go_wp2_with fail
      refine (HFE.out _ hb).mono ?_
      rintro e w3 ⟨A1, c1, rfl, hq1, hR1, hbn⟩
      replace hb := hb.trans (hbn.mono hb.size)
      clear hbn
      go_wp2_with fail
      refine (HBY.out _ _ _ hR1).mono ?_
      rintro e w4 ⟨kk, vv, vs, nm, X3, x3, Y3, y3, rfl, hkk3, hkk, hvv1, hvv, hno, hbd, hvl, hnl, hx3, hy3, hV, hN, hbn⟩
      replace hR1 := hR1.next hbn
      replace hb := hb.trans (hbn.mono hb.size)
      clear hbn
      clear hR1
      have HNO := hide hno
      have HBD := hide hbd
      clear hno hbd
      go_wp2_with fail
      refine (HVA.out _ hb).mono ?_
      rintro e w5 ⟨rfl, rfl⟩
      go_wp2_with fail
      refine (HRA.out _ hb).mono ?_
      rintro e w6 ⟨rfl, hbn⟩
      replace hV := hV.next hbn
      replace hN := hN.next hbn
      replace hb := hb.trans (hbn.mono hb.size)
      clear hbn
      go_wp2_with fail
      refine (HRB5.out _ hb kk vv vs nm hkk3 hkk hvv1 hvv HNO.out HBD.out).mono ?_
      rintro e w7 ⟨X4, x4, Y4, y4, rfl, hx4, hy4, hV2, hN2, hbn⟩
      replace hV := hV.next hbn
      replace hN := hN.next hbn
      replace hb := hb.trans (hbn.mono hb.size)
      clear hbn
      go_wp2_with fail
      refine (HEQ.out none none 0 0 0 [] _ rfl (by omega) IntsA.nil_ IntsA.nil_).mono ?_
      rintro e w8 ⟨rfl, m8, rfl⟩
      replace hV := hV.keep (w' := w7.drewN m8) fun _ _ => rfl
      replace hN := hN.keep (w' := w7.drewN m8) fun _ _ => rfl
      replace hV2 := hV2.keep (w' := w7.drewN m8) fun _ _ => rfl
      replace hN2 := hN2.keep (w' := w7.drewN m8) fun _ _ => rfl
      replace hb := below_drewN hb m8
      replace hV := hV.more (B' := (w7.drewN m8).heap.size) (Nat.le_refl _)
      replace hN := hN.more (B' := (w7.drewN m8).heap.size) (Nat.le_refl _)
      replace hV2 := hV2.more (B' := (w7.drewN m8).heap.size) (Nat.le_refl _)
      replace hN2 := hN2.more (B' := (w7.drewN m8).heap.size) (Nat.le_refl _)
      generalize w7.drewN m8 = w8 at *
      go_wp2_with fail
      refine (HEQ.out _ _ _ _ _ _ _ hvl (by omega) hV hV2).mono ?_
      rintro e w9 ⟨rfl, m9, rfl⟩
      replace hV := hV.keep (w' := w8.drewN m9) fun _ _ => rfl
      replace hN := hN.keep (w' := w8.drewN m9) fun _ _ => rfl
      replace hV2 := hV2.keep (w' := w8.drewN m9) fun _ _ => rfl
      replace hN2 := hN2.keep (w' := w8.drewN m9) fun _ _ => rfl
      replace hb := below_drewN hb m9
      replace hV := hV.more (B' := (w8.drewN m9).heap.size) (Nat.le_refl _)
      replace hN := hN.more (B' := (w8.drewN m9).heap.size) (Nat.le_refl _)
      replace hV2 := hV2.more (B' := (w8.drewN m9).heap.size) (Nat.le_refl _)
      replace hN2 := hN2.more (B' := (w8.drewN m9).heap.size) (Nat.le_refl _)
      generalize w8.drewN m9 = w9 at *
      clear hV hV2
      go_wp2_with fail
      refine (HEQ.out _ _ _ _ _ _ _ hnl (by omega) hN hN2).mono ?_
      rintro e w10 ⟨rfl, m10, rfl⟩
      replace hN := hN.keep (w' := w9.drewN m10) fun _ _ => rfl
      replace hN2 := hN2.keep (w' := w9.drewN m10) fun _ _ => rfl
      replace hb := below_drewN hb m10
      replace hN := hN.more (B' := (w9.drewN m10).heap.size) (Nat.le_refl _)
      replace hN2 := hN2.more (B' := (w9.drewN m10).heap.size) (Nat.le_refl _)
      generalize w9.drewN m10 = w10 at *
      clear hN hN2
      go_wp2_with fail
      refine (awake_any _).mono ?_
      rintro e w11 ⟨rfl, hbn⟩
      replace hb := hb.trans (hbn.mono hb.size)
      clear hbn
      go_wp2
      go_ret
      exact ⟨rfl, hb⟩
end Go.Proofs.Ytejijddfepgnkaa
