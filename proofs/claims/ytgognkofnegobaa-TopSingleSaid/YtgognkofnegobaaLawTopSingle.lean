/-
  The walk of TopSingle.
-/
import Derived.Test.YtgognkofnegobaaSinglePlain
import Derived.Test.YtgognkofnegobaaTopBase
import Derived.Test.YtgognkofnegobaaCommittee
namespace Go.Proofs.Ytgognkofnegobaa
open Go.RowKit
set_option linter.unusedVariables false
set_option linter.unusedSimpArgs false

set_option maxRecDepth 100000 in
set_option maxHeartbeats 1600000 in
theorem topSingle_any (A : Option Addr) (n c : Nat) (L : List (List Int)) (w : World) (hn : L.length = n) (hlen : n ≤ 9223372036854775807) (hrow : ∀ l ∈ L, l.length ≤ 9223372036854775807) (hA : RowsA w w.heap.size A L) :
    Calls Try.prog 6 #[.slice A n c] w fun e w' => e = .returned (.bool true) ∧ Below w.heap.size w w' := by
  have HVA : Hid (∀ w', Below w.heap.size w w' → Calls Try.prog 8 #[.slice A n c] w' fun e w'' => e = .returned (.bool (votesB L)) ∧ w' = w'') := fun w' hw' => refValid_any A n c w.heap.size L w' hn hlen hrow (hA.below hw')
  cases hv : votesB L with
  | false =>
    rw [hv] at HVA
    clear hrow hn hA hv hlen
    go_enter Try.func6, Try.ntmps6
    have hb := Below.refl w.heap.size w
    go_wp2_with fail
    refine (HVA.out _ hb).mono ?_
    rintro e w1 ⟨rfl, rfl⟩
    go_wp2_with fail
    refine (counts_any _).mono ?_
    rintro e w2 ⟨rfl, hbn⟩
    replace hb := hb.trans (hbn.mono hb.size)
    clear hbn
    go_wp2
    go_ret
    exact ⟨rfl, hb⟩
  | true =>
    rw [hv] at HVA
    obtain ⟨k, W, hW, hk⟩ := votes_of hv hn
    obtain ⟨b0, o0, A0, m, c0, rfl, hb0, hc0, hx0, hle0, hI0⟩ := hA.at_ (k := 0) (by have := hW.ok.pos; omega)
    rw [Nat.add_zero] at hc0
    obtain rfl : m = k := by rw [← hk, hx0.out]
    have hn1 := hW.ok.pos
    have hn9 := hW.ok.le
    have hm5 := hW.ok.nle
    have hm1 := hW.ok.npos
    have hi0 : (0 : Int) < (n : Int) := by omega
    have HBA : Hid (∀ w', Below w.heap.size w w' → Calls Try.prog 11 #[.slice (some ⟨b0, o0, none⟩) n c] w' fun e w'' => ∃ A' c', e = .returned (.slice A' n c') ∧ n ≤ c' ∧ RowsA w'' w''.heap.size A' L ∧ Below w'.heap.size w' w'') := fun w' hw' => bal_any (some ⟨b0, o0, none⟩) n c w.heap.size L w' hn hlen hrow hv (hA.below hw')
    obtain ⟨t, htm, hwt, hct⟩ := single_eq hW.ok
    have HWI : Hid (∀ A' c' w1, RowsA w1 w1.heap.size A' L → Calls Try.prog 10 #[.slice A' n c', .int .i64 0] w1 fun e w' => e = .returned (.tuple #[.int .i64 (t : Nat), .int .i64 0]) ∧ Below w1.heap.size w1 w') := fun A' c' w1 h => by
      have h9 := WinN_yes A' n m c' 0 W w1 (by omega) hW.ok hW.valid (by rw [hW.eq]; exact h)
      rw [winN, if_pos rfl, hwt] at h9
      exact h9
    obtain ⟨T, hT⟩ : ∃ T : Nat, 2 ^ t = T := ⟨_, rfl⟩
    rw [hT] at hct
    have hshT := shl_nat t (by omega)
    rw [hT] at hshT
    have HCY : Hid (∀ X' cx w1, IntsA w1 w1.heap.size X' (up (firstS W n)) → Calls Try.prog 24 #[.int .i64 (m : Nat), .int .i64 1, .slice X' n cx] w1 fun e w' => e = .returned (.tuple #[.int .i64 (T : Nat), .int .i64 0]) ∧ Below w1.heap.size w1 w') := fun X' cx w1 h => by
      have := Committee_yes m 1 n cx (firstS W n) X' w1 (firstS_ok hW.ok) h (firstS_app hW.ok)
      rw [hct] at this
      exact this
    have HOK := hide hW.ok
    have HA : Hid (RowsA w w.heap.size (some ⟨b0, o0, none⟩) (upp W)) := by rw [hW.eq]; exact hA
    have HLEN : Hid (∀ i, i < n → (W.getD i []).length = m) := fun i hi => (hW.ok.rows i hi).len
    have HLT : Hid (∀ i, i < n → (W.getD i []).getD 0 0 < m) := fun i hi => (hW.ok.rows i hi).getD_lt hm1
    clear hrow hn hA hv hlen hW hI0 hx0 hle0 hk hwt hct hT
    go_enter Try.func6, Try.ntmps6
    have hb := Below.refl w.heap.size w
    go_wp2_with fail
    refine (HVA.out _ hb).mono ?_
    rintro e w1 ⟨rfl, rfl⟩
    have HB0 := hide hb
    clear hb
    go_wp2_with fail
    go_loopw [3, 16] (fun v i wr => ∃ (k c9 : Nat) (H : Option Addr), k ≤ n ∧ i = .int .i64 k ∧ v = .slice H k c9 ∧ k ≤ c9 ∧ wr.ownsRow w.heap.size 3 1 (.slice H k c9) k ((up (firstS W k)).map (Value.int .i64)) ∧ Below w.heap.size w wr) (fun _ i _ => n - (intOf i).toNat)
    case atStart => exact ⟨0, 0, none, Nat.zero_le _, rfl, rfl, Nat.le_refl _, World.ownsRow_nil _ _ _ _, HB0.out⟩
    case round =>
      obtain ⟨k, c9, H, hk, rfl, rfl, hkc, hown, hbel⟩ := hrel
      have HOW := hide hown
      clear hown
      by_cases hlt : k < n
      · obtain ⟨b, o, A', n', c', he, hbb, hcc, hxx, hle, hI⟩ := (HA.out.below hbel).at_ (k := k) (by rw [upp_length, HOK.out.len]; exact hlt)
        injection he with he; injection he with e1 e2
        subst e1; subst e2
        rw [upp_getD] at hxx hI
        obtain rfl : m = n' := by have := hxx.out; rw [up_length, HLEN.out k hlt] at this; exact this
        obtain ⟨b2, o2, x, rfl, hb2, hc2, hx2⟩ := hI.at_ (k := 0) (by rw [up_length, HLEN.out k hlt]; exact hm1)
        rw [Nat.add_zero] at hc2
        obtain ⟨y, hy⟩ : ∃ y, (W.getD k []).getD 0 0 = y := ⟨_, rfl⟩
        obtain rfl : x = (y : Int) := by rw [← hx2.out, up_getD, hy]
        have hym : y < m := by rw [← hy]; exact HLT.out k hlt
        have hm0 : (0 : Int) < (m : Int) := by omega
        have hsy := shl_nat y (by omega)
        obtain ⟨Y, hY⟩ : ∃ Y : Nat, 2 ^ y = Y := ⟨_, rfl⟩
        rw [hY] at hsy
        have HS : Hid (firstS W (k + 1) = firstS W k ++ [Y]) := by show _ = _; rw [firstS_succ, hy, hY]
        clear hxx hI hx2 hy hY
        go_wp2_with ((at_builtin); refine wpList_app1 (w0 := wr) _ _ 24 3 (.int .i64 0) 8 rfl rfl Try.underlying24 info_int rfl w.heap.size (.slice H k c9) k _ (.int .i64 (Y : Int)) rfl rfl rfl ⟨_, rfl⟩ HOW.out rfl (by omega) (by omega) (by have := hbel.size; omega) ?_; intro g cg w1 hown1 hc1 hc1m hg1 hgl hgrow; have HOW1 := hide hown1; have HG := hide hgrow; clear hown1 hgrow)
        go_roundw
        case rel =>
          refine ⟨k + 1, cg, some ⟨g, 0, none⟩, by omega, by go_num, rfl, hc1, ?_, hbel.grown HG.out hbel.size (fun q hq => (own_lt HOW.out q hq).1)⟩
          rw [HS.out]
          have := HOW1.out
          simpa [up] using this
        case measure => simp [intOf]; omega
      · obtain rfl : n = k := by omega
        have hb := hbel
        have hIF := ints_of_own HOW.out
        clear hbel
        go_wp2_with fail
        refine (HBA.out _ hb).mono ?_
        rintro e w21 ⟨A1, c1, rfl, hq1, hR1, hbn⟩
        replace hIF := hIF.next hbn
        replace hb := hb.trans (hbn.mono hb.size)
        clear hbn
        go_wp2_with fail
        refine (HWI.out _ _ _ hR1).mono ?_
        rintro e w22 ⟨rfl, hbn⟩
        replace hIF := hIF.next hbn
        replace hR1 := hR1.next hbn
        replace hb := hb.trans (hbn.mono hb.size)
        clear hbn
        clear hR1
        have hc8 := (hb.cell (p := ⟨b0, o0, none⟩) hb0).trans hc0
        go_wp2_with fail
        refine (HCY.out _ _ _ hIF).mono ?_
        rintro e w23 ⟨rfl, hbn⟩
        replace hIF := hIF.next hbn
        replace hb := hb.trans (hbn.mono hb.size)
        clear hbn
        clear hc8
        go_wp2_with fail
        refine (counts_any _).mono ?_
        rintro e w24 ⟨rfl, hbn⟩
        replace hIF := hIF.next hbn
        replace hb := hb.trans (hbn.mono hb.size)
        clear hbn
        go_wp2
        go_ret
        exact ⟨rfl, hb⟩
end Go.Proofs.Ytgognkofnegobaa
