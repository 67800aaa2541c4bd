/-
  swap: wishes.choose.
-/
import Derived.Test.YtgognkofnegobaaOwner
import Derived.Test.YtgognkofnegobaaInfo
import Derived.Test.YtgognkofnegobaaBase
namespace Go.Proofs.Ytgognkofnegobaa
open Go.RowKit
set_option linter.unusedVariables false
set_option linter.unusedSimpArgs false

set_option maxRecDepth 100000 in
set_option maxHeartbeats 1600000 in
theorem choose_any (A X : Option Addr) (n c c' B B' : Nat) (W : List (List Nat)) (o : List Nat) (w : World) (hn : n ≤ 60) (hlen : W.length = n) (hrows : ∀ i, i < n → Ord (W.getD i []) n) (hA : RowsA w B A (upp W)) (ho : Ord o n) (hX : IntsA w B' X (up o)) :
    Calls Try.prog 43 #[.slice A n c, .slice X n c'] w (OneRow n (chooseN W o) w) := by
  have hmk := run_make_row' (P := Try.prog) 24 3 (.int .i64 0) 8 Try.underlying24 info_int rfl .i64 .i64 n (by omega) (by omega)
  have hA1 := hA.top
  have hX1 := hX.top
  have HO := hide ho
  have HR := hide hrows
  have HN := hide hlen
  have hL := full_nat n (by omega)
  clear ho hrows hlen
  have hm0 : (w.alloc (.cells (madeCells #[.int .i64 0] n) 3)).rowIs w.heap.size 3 n (fun _ => .int .i64 ((0 : Nat) : Int)) := World.rowIs_made w _ n _
  have hbl0 : Below w.heap.size w (w.alloc (.cells (madeCells #[.int .i64 0] n) 3)) := (Below.refl _ _).alloc (Nat.le_refl _) _
  go_enter Try.func43, Try.ntmps43
  go_wp2
  clear hmk
  go_loopw [6, 18] (fun l i wr => ∃ (k L : Nat) (out : Nat → Nat), k ≤ n ∧ i = .int .i64 k ∧ l = .int .i64 L ∧ L < 2 ^ n ∧ wr.rowIs w.heap.size 3 n (fun i => .int .i64 (out i)) ∧ Below w.heap.size w wr ∧
      Hid (cardF n L + k = n ∧ chooseF W (o.drop k) L out = chosen W o)) (fun _ i _ => n - (intOf i).toNat)
  case atStart => exact ⟨0, 2 ^ n - 1, fun _ => 0, Nat.zero_le _, rfl, by first | rfl | rw [hL], full_lt, hm0, hbl0, by rw [cardF_full]; rfl, by rw [chosen, HN.out]; rfl⟩
  case round =>
    clear hm0 hbl0 hL
    obtain ⟨k, L, out, hk, rfl, rfl, hL, hro, hbel, HP⟩ := hrel
    have hL60 : L < 2 ^ 60 := Nat.lt_of_lt_of_le hL (Nat.pow_le_pow_right (by decide) hn)
    by_cases hlt : k < n
    · obtain ⟨b, o1, x, rfl, hb, hc, hx⟩ := (hX1.below hbel).at_ (k := k) (by rw [up_length, HO.out.len]; exact hlt)
      have hx' := hx.out
      rw [up_getD] at hx'
      have hin : o.getD k 0 < n := HO.out.getD_lt hlt
      have hdrop : Hid (o.drop k = o.getD k 0 :: o.drop (k + 1)) := by
        show _ = _
        rw [List.drop_eq_getElem_cons (by rw [HO.out.len]; exact hlt), List.getD_eq_getElem?_getD, List.getElem?_eq_getElem (by rw [HO.out.len]; exact hlt)]; rfl
      generalize o.getD k 0 = i at *
      subst hx'
      have hri := HR.out i hin
      obtain ⟨g0, hg0, hgb0⟩ := cardF_pos (n := n) (M := L) (by have := HP.out.1; omega)
      have hsw : ∃ g ∈ W.getD i [], L.testBit g = true := ⟨g0, (hri.mem _).2 hg0, hgb0⟩
      obtain ⟨hbm1, hbm2⟩ := best_mem hsw
      have hbn := (hri.mem _).1 hbm1
      have HB := hide (best_any A n c w.heap.size i L W wr HN.out (by omega) (hA1.below hbel) hin hL60 (by rw [hri.len]; omega) (fun g hg => by have := (hri.mem g).1 hg; omega) hsw)
      have HSTEP : Hid (chooseF W (i :: o.drop (k + 1)) L out = chooseF W (o.drop (k + 1)) (sdiff L (2 ^ best (W.getD i []) L)) (fun j => if j = i then best (W.getD i []) L else out j)) := rfl
      have hcd := cardF_drop hbn hbm2
      have HCD := hide hcd
      generalize best (W.getD i []) L = g at *
      have hpw : (2 : Nat) ^ g < 2 ^ 60 := Nat.pow_lt_pow_right (by decide) (by omega)
      have hsd : bits BinOp.andNot IntKind.i64 (L : Int) (wrap64 (2 ^ g)) = ((sdiff L (2 ^ g) : Nat) : Int) := by rw [shl_one g (by omega), bandNot_nat L _ (by omega) (by omega)]
      clear hx hbm1 hbm2 hsw hgb0 hg0 hcd hri
      go_wp2_with (go_at_call 71; refine (HB.out).mono ?_; rintro e w1 ⟨rfl, hb1⟩; have hr1 := hro.of_block (hb1.block _ hro.lt); obtain ⟨v1, o1'⟩ : ∃ v, w1.cell? ⟨w.heap.size, i, none⟩ = some v := ⟨_, hr1.cell hin⟩; have o2 := hr1.frozen i; have o3 : ∀ v, (w1.setCell ⟨w.heap.size, i, none⟩ v).cell? ⟨w.heap.size, i, none⟩ = some v := fun v => by have := (hr1.set i v).cell hin; simpa using this)
      go_roundw
      case rel =>
        refine ⟨k + 1, sdiff L (2 ^ g), (fun j => if j = i then g else out j), by omega, by go_num, ?_, sdiff_lt _ _ _ hL (Nat.pow_lt_pow_right (by decide) hbn), (hr1.set i _).congr (fun j _ => ?_), (hbel.trans (hb1.mono hbel.size)).setCell (by show w.heap.size ≤ w.heap.size; omega) _, ?_, ?_⟩
        · first | rfl | rw [hsd]
        · by_cases e : j = i <;> simp [e]
        · have := HCD.out; have := HP.out.1; omega
        · rw [← HSTEP.out, ← hdrop.out]; exact HP.out.2
      case measure => simp [intOf] <;> omega
    · obtain rfl : n = k := by omega
      go_wp2
      go_ret
      refine ⟨some ⟨w.heap.size, 0, none⟩, n, rfl, ?_, hbel, fun g hg => by simp [Value.ownBlock] at hg; omega⟩
      have h1 : out = chosen W o := by
        rw [← HP.out.2, List.drop_of_length_le (by rw [HO.out.len]; omega)]; rfl
      rw [h1] at hro
      exact ints_of_row hro (by simp [chooseN, listF, HN.out]) (fun i hi => by rw [up_getD]; simp [chooseN, listF, HN.out, List.getD_eq_getElem?_getD, hi])
end Go.Proofs.Ytgognkofnegobaa
