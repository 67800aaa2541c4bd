/-
  The reference's Choose.
-/
import Derived.Test.YtilnbiaabhdfgaaRefValid
import Derived.Test.YtilnbiaabhdfgaaBase
namespace Go.Proofs.Ytilnbiaabhdfgaa
open Go.RowKit
set_option linter.unusedVariables false
set_option linter.unusedSimpArgs false

theorem best_at {l : List Nat} {M k : Nat} (hk : k < l.length) (hb : M.testBit (l.getD k 0) = true) (hno : ∀ j, j < k → M.testBit (l.getD j 0) = false) : best l M = l.getD k 0 := by
  have hm : ∃ g ∈ l, M.testBit g = true := ⟨_, getD_mem hk, hb⟩
  obtain ⟨k2, hk2, e, h2⟩ := best_idx hm
  rw [fidx_found hk hb hno] at e
  obtain rfl : k = k2 := by omega
  exact h2.symm

set_option maxRecDepth 100000 in
set_option maxHeartbeats 1600000 in
theorem refChoose_any (A X : Option Addr) (n c c' B B' : Nat) (W : List (List Nat)) (o : List Nat) (w : World) (hn : n ≤ 60) (hlen : W.length = n) (hrows : ∀ i, i < n → Ord (W.getD i []) n) (hA : RowsA w B A (upp W)) (ho : Ord o n) (hX : IntsA w B' X (up o)) :
    Calls Try.prog 37 #[.slice A n c, .slice X n c'] w (OneRow n (chooseN W o) w) := by
  have hmk := run_make_row' (P := Try.prog) 23 3 (.int .i64 0) 8 Try.underlying23 info_int rfl .i64 .i64 n (by omega) (by omega)
  have hA1 := hA.top
  have hX1 := hX.top
  have HO := hide ho
  have HR := hide hrows
  have HN := hide hlen
  clear ho hrows hlen
  have hm0 : (w.alloc (.cells (madeCells #[.int .i64 0] n) 3)).rowIs w.heap.size 3 n (fun _ => .int .i64 ((0 : Nat) : Int)) := World.rowIs_made w _ n _
  have hbl0 : Below w.heap.size w (w.alloc (.cells (madeCells #[.int .i64 0] n) 3)) := (Below.refl _ _).alloc (Nat.le_refl _) _
  go_enter Try.func37, Try.ntmps37
  go_wp2
  clear hmk
  go_loopw [6, 15] (fun t i wr => ∃ (k L T : Nat) (out : Nat → Nat), k ≤ n ∧ i = .int .i64 k ∧ t = .int .i64 T ∧ T < 2 ^ 60 ∧ wr.rowIs w.heap.size 3 n (fun i => .int .i64 (out i)) ∧ Below w.heap.size w wr ∧
      Hid (L < 2 ^ n ∧ (∀ g, g < n → L.testBit g = !T.testBit g) ∧ cardF n L + k = n ∧ chooseF W (o.drop k) L out = chosen W o)) (fun _ i _ => n - (intOf i).toNat)
  case atStart => exact ⟨0, 2 ^ n - 1, 0, fun _ => 0, Nat.zero_le _, rfl, rfl, by decide, hm0, hbl0, full_lt, fun g hg => by rw [full_bit]; simp [hg], by rw [cardF_full]; rfl, by rw [chosen, HN.out]; rfl⟩
  case round =>
    clear hm0 hbl0
    obtain ⟨k, L, T, out, hk, rfl, rfl, hT60, hro, hbel, HP⟩ := hrel
    by_cases hlt : k < n
    · obtain ⟨b, o1, x, rfl, hb, hc, hx⟩ := (hX1.below hbel).at_ (k := k) (by rw [up_length, HO.out.len]; exact hlt)
      have hx' := hx.out
      rw [up_getD] at hx'
      have hin : o.getD k 0 < n := HO.out.getD_lt hlt
      have hdrop : Hid (o.drop k = o.getD k 0 :: o.drop (k + 1)) := by
        show _ = _
        rw [List.drop_eq_getElem_cons (by rw [HO.out.len]; exact hlt), List.getD_eq_getElem?_getD, List.getElem?_eq_getElem (by rw [HO.out.len]; exact hlt)]; rfl
      generalize o.getD k 0 = i at *
      subst hx'
      obtain ⟨g0, hg0, hgb0⟩ := cardF_pos (n := n) (M := L) (by have := HP.out.2.2.1; omega)
      have hsw : ∃ g ∈ W.getD i [], L.testBit g = true := ⟨g0, ((HR.out i hin).mem _).2 hg0, hgb0⟩
      obtain ⟨b3, o3, A', n', c1, rfl, hb3, hc3, hx3, hle3, hI3⟩ := (hA1.below hbel).at_ (k := i) (by rw [upp_length, HN.out]; exact hin)
      rw [upp_getD] at hI3 hx3
      obtain rfl : n = n' := by have := hx3.out; rw [up_length, (HR.out i hin).len] at this; exact this
      have HSW := hide hsw
      clear hx hx3 hsw hgb0 hg0 hc3
      go_wp2
      go_loopw [9] (fun q wi => ∃ j : Nat, j < n ∧ q = .int .i64 j ∧ wi.rowIs w.heap.size 3 n (fun i => .int .i64 (out i)) ∧ Below w.heap.size w wi ∧ Hid (∀ j', j' < j → L.testBit ((W.getD i []).getD j' 0) = false)) (fun q _ => n - (intOf q).toNat)
      case atStart => exact ⟨0, by omega, rfl, hro, hbel, fun j' h => by omega⟩
      case round =>
        clear hro hbel hI3 hc
        obtain ⟨j, hj, rfl, hro, hbel, hno⟩ := hrel
        obtain ⟨b3, o3, A', n2, c1, e3, hb3, hc3, hx3, hle3, hI3⟩ := (hA1.below hbel).at_ (k := i) (by rw [upp_length, HN.out]; exact hin)
        injection e3 with e3
        injection e3 with e4 e5 _
        subst e4; subst e5
        rw [upp_getD] at hI3 hx3
        obtain rfl : n2 = n := by have := hx3.out; rw [up_length, (HR.out i hin).len] at this; exact this.symm
        obtain ⟨b4, o4, x, rfl, hb4, hc4, hx4⟩ := hI3.at_ (k := j) (by rw [up_length, (HR.out i hin).len]; exact hj)
        have hx5 := hx4.out
        rw [up_getD] at hx5
        have hgn : (W.getD i []).getD j 0 < n2 := (HR.out i hin).getD_lt hj
        have hbt := HP.out.2.1 _ hgn
        obtain ⟨g, hgg⟩ : ∃ g, (W.getD i []).getD j 0 = g := ⟨_, rfl⟩
        rw [hgg] at hx5 hgn hbt
        subst hx5
        have hsh := shr_test T g (by omega)
        have HGG := hide hgg
        clear hx3 hx4 hI3 hgg
        cases hT : T.testBit g
        · rw [hT] at hsh hbt
          have HB : Hid (best (W.getD i []) L = g) := by
            show _ = _
            rw [best_at (k := j) (by rw [(HR.out i hin).len]; exact hj) (by rw [HGG.out, hbt]; rfl) hno.out, HGG.out]
          have HSTEP : Hid (chooseF W (i :: o.drop (k + 1)) L out = chooseF W (o.drop (k + 1)) (sdiff L (2 ^ g)) (fun j => if j = i then g else out j)) := by
            show _ = _
            rw [← HB.out]; rfl
          have HCD := hide (cardF_drop (M := L) hgn (by rw [hbt]; rfl))
          have HT := hide hT
          clear hT hbt
          obtain ⟨v1, o1'⟩ : ∃ v, wr.cell? ⟨w.heap.size, i, none⟩ = some v := ⟨_, hro.cell hin⟩
          have o2 := hro.frozen i
          have o3' : ∀ v, (wr.setCell ⟨w.heap.size, i, none⟩ v).cell? ⟨w.heap.size, i, none⟩ = some v := fun v => by have := (hro.set i v).cell hin; simpa using this
          have hpw : (2 : Nat) ^ g < 2 ^ 60 := Nat.pow_lt_pow_right (by decide) (by omega)
          have hor : Hid (bits BinOp.or IntKind.i64 (T : Int) (wrap64 (2 ^ g)) = ((T ||| 2 ^ g : Nat) : Int)) := by show _ = _; rw [shl_one g (by omega), bor_nat T _ (by omega) (by omega)]
          go_wp2
          go_roundw
          case rel =>
            refine ⟨k + 1, sdiff L (2 ^ g), T ||| 2 ^ g, (fun j => if j = i then g else out j), by omega, by go_num, by rw [hor.out], Nat.or_lt_two_pow hT60 hpw, (hro.set i _).congr (fun j _ => ?_), hbel.setCell (by show w.heap.size ≤ w.heap.size; omega) _,
              sdiff_lt _ _ _ HP.out.1 (Nat.pow_lt_pow_right (by decide) hgn), fun g' hg' => ?_, ?_, ?_⟩
            · by_cases e : j = i <;> simp [e]
            · rw [testBit_sdiff, Nat.testBit_or, HP.out.2.1 g' hg', Nat.testBit_two_pow]
              cases T.testBit g' <;> cases decide (g = g') <;> rfl
            · have := HCD.out; have := HP.out.2.2.1; omega
            · rw [← HSTEP.out, ← hdrop.out]; exact HP.out.2.2.2
          case measure => simp [intOf] <;> omega
        · rw [hT] at hsh hbt
          have HT := hide hT
          have hbt' := hide hbt
          clear hT hbt
          have HSW2 : Hid (j + 1 < n2) := by
            obtain ⟨g1, hg1, hgb⟩ := HSW.out
            obtain ⟨p1, p2⟩ := place_lt hg1
            rw [(HR.out i hin).len] at p1
            apply Classical.byContradiction
            intro hge
            have : L.testBit ((W.getD i []).getD (place (W.getD i []) g1) 0) = false := by
              by_cases e : place (W.getD i []) g1 = j
              · rw [e, HGG.out, hbt'.out]; rfl
              · exact hno.out _ (by have : ¬ j + 1 < n2 := hge; omega)
            rw [p2, hgb] at this
            cases this
          go_wp2
          go_roundw
          case rel =>
            refine ⟨j + 1, HSW2.out, by go_num, hro, hbel, fun j' h => ?_⟩
            by_cases e : j' = j
            · rw [e, HGG.out, hbt'.out]; rfl
            · exact hno.out j' (by omega)
          case measure => simp [intOf] <;> omega
    · obtain rfl : n = k := by omega
      go_wp2
      go_ret
      refine ⟨some ⟨w.heap.size, 0, none⟩, n, rfl, ?_, hbel, fun g hg => by simp [Value.ownBlock] at hg; omega⟩
      have h1 : out = chosen W o := by
        rw [← HP.out.2.2.2, List.drop_of_length_le (by rw [HO.out.len]; omega)]; rfl
      rw [h1] at hro
      exact ints_of_row hro (by simp [chooseN, listF, HN.out]) (fun i hi => by rw [up_getD]; simp [chooseN, listF, HN.out, List.getD_eq_getElem?_getD, hi])
end Go.Proofs.Ytilnbiaabhdfgaa
