/-
  The walk of VoteTwice.
-/
import Derived.Test.YtejijddfepgnkaaTwiceMem
import Derived.Test.YtejijddfepgnkaaVoteBase
import Derived.Test.YtejijddfepgnkaaMarginsApi
import Derived.Test.YtejijddfepgnkaaWidthsApi
import Derived.Test.YtejijddfepgnkaaKemApi
import Derived.Test.YtejijddfepgnkaaAxisApi
import Derived.Test.YtejijddfepgnkaaMatRead
import Derived.Test.YtejijddfepgnkaaEqual
namespace Go.Proofs.Ytejijddfepgnkaa
open Go.RowKit
set_option linter.unusedVariables false
set_option linter.unusedSimpArgs false

set_option maxRecDepth 100000 in
set_option maxHeartbeats 3200000 in
theorem voteTwice_any (A : Option Addr) (n c : Nat) (L : List (List Int)) (w : World) (hn : L.length = n) (hlen : n ≤ 9223372036854775807) (hrow : ∀ l ∈ L, l.length ≤ 9223372036854775807) (hA : RowsA w w.heap.size A L) :
    Calls Try.prog 19 #[.slice A n c] w fun e w' => e = .returned (.bool true) ∧ Below w.heap.size w w' := by
  have HFE0 := hide (vew_in (c := c) hn hlen hrow rfl hA)
  have HVA := hide (refvalid_in (c := c) hn hlen hrow hA)
  by_cases h4 : 4 < n
  · clear hrow hA hn
    go_enter Try.func19, Try.ntmps19
    have hb := Below.refl w.heap.size w
    go_wp2_with fail
    refine (awake_any _).mono ?_
    rintro e w1 ⟨rfl, hbn⟩
    replace hb := hb.trans (hbn.mono hb.size)
    clear hbn
    go_wp2
    go_ret
    exact ⟨rfl, hb⟩
  cases hv : votesB L
  · rw [hv] at HVA
    clear hv hrow hA hn
    go_enter Try.func19, Try.ntmps19
    have hb := Below.refl w.heap.size w
    go_wp2_with fail
    refine (HVA.out _ hb).mono ?_
    rintro e w1 ⟨rfl, rfl⟩
    go_wp2_with fail
    refine (awake_any _).mono ?_
    rintro e w2 ⟨rfl, hbn⟩
    replace hb := hb.trans (hbn.mono hb.size)
    clear hbn
    go_wp2
    go_ret
    exact ⟨rfl, hb⟩
  · have hqn : (fewV L).length = n := by rw [vew_same hv, hn]
    have HFE := hide (vew_in (c := c) hn hlen hrow hqn hA)
    rw [vew_same hv] at HFE
    rw [hv] at HVA
    clear HFE0
    obtain ⟨k, W, hW, -⟩ := votes_of hv hn
    have hk5 := hW.ok.nle
    have hk1 := hW.ok.npos
    have hn1 := hW.ok.pos
    have hW2 : BOk (twice W) (n + n) k := by have := twice_ok hW.ok (by omega); rwa [Nat.two_mul] at this
    have hv2 : votesB (upp (twice W)) = true := votes_B hW2
    have HFB : Hid (∀ w', Below w.heap.size w w' → Calls Try.prog 21 #[.slice A n c] w' fun e w'' => ∃ A' c' vs blk lim, e = .returned (.slice A' n c') ∧ n ≤ c' ∧ w''.ownsRow w'.heap.size 23 1 (.slice A' n c') n vs ∧ RowBlks w'' w'.heap.size (Value.slice A' n c').ownBlock vs L blk lim ∧ Below w'.heap.size w' w'') := fun w' hw' => by
      have := few_blks A n c w.heap.size L w' hn hlen hrow (hA.below hw')
      rw [hqn, vew_same hv] at this; exact this
    have HMY : Hid (∀ A' c' w1, RowsA w1 w1.heap.size A' L → Calls Try.prog 33 #[.slice A' n c'] w1 fun e w' => ∃ X c', e = .returned (.tuple #[.slice X k c', .int .i64 0]) ∧ k ≤ c' ∧ RowsA w' w'.heap.size X (rowsZ (margM W) k) ∧ Below w1.heap.size w1 w') := fun A' c' w1 h => Margins_yes A' n k c' W w1 hW.ok (by rw [hW.eq]; exact h) hW.valid
    have HMY2 : Hid (∀ A' c' w1, RowsA w1 w1.heap.size A' (upp (twice W)) → Calls Try.prog 33 #[.slice A' (n + n) c'] w1 fun e w' => ∃ X c', e = .returned (.tuple #[.slice X k c', .int .i64 0]) ∧ k ≤ c' ∧ RowsA w' w'.heap.size X (rowsZ (margM (twice W)) k) ∧ Below w1.heap.size w1 w') := fun A' c' w1 h => Margins_yes A' (n + n) k c' (twice W) w1 hW2 h hv2
    have HWY : Hid (∀ A' c' w1, RowsA w1 w1.heap.size A' L → Calls Try.prog 38 #[.slice A' n c'] w1 fun e w' => ∃ X c', e = .returned (.tuple #[.slice X k c', .int .i64 0]) ∧ k ≤ c' ∧ RowsA w' w'.heap.size X (rowsZ (widM k (margM W)) k) ∧ Below w1.heap.size w1 w') := fun A' c' w1 h => Widths_yes A' n k c' W w1 hW.ok (by rw [hW.eq]; exact h) hW.valid
    have HWY2 : Hid (∀ A' c' w1, RowsA w1 w1.heap.size A' (upp (twice W)) → Calls Try.prog 38 #[.slice A' (n + n) c'] w1 fun e w' => ∃ X c', e = .returned (.tuple #[.slice X k c', .int .i64 0]) ∧ k ≤ c' ∧ RowsA w' w'.heap.size X (rowsZ (widM k (margM (twice W))) k) ∧ Below w1.heap.size w1 w') := fun A' c' w1 h => Widths_yes A' (n + n) k c' (twice W) w1 hW2 h hv2
    have HKY : Hid (∀ A' c' w1, RowsA w1 w1.heap.size A' L → Calls Try.prog 28 #[.slice A' n c'] w1 fun e w' => ∃ X cx, e = .returned (.tuple #[.slice X k cx, .int .i64 (disN W (kemO W k) : Nat), .int .i64 0]) ∧ k ≤ cx ∧ IntsA w' w'.heap.size X (up (kemO W k)) ∧ Below w1.heap.size w1 w') := fun A' c' w1 h => (Kemeny_yes A' n k c' W w1 hW.ok (by rw [hW.eq]; exact h) hW.valid).mono fun e w' ⟨X, cx, h1, h2, h3, h4, _⟩ => ⟨X, cx, h1, h2, h3, h4⟩
    have HKY2 : Hid (∀ A' c' w1, RowsA w1 w1.heap.size A' (upp (twice W)) → Calls Try.prog 28 #[.slice A' (n + n) c'] w1 fun e w' => ∃ X cx, e = .returned (.tuple #[.slice X k cx, .int .i64 (2 * disN W (kemO W k) : Nat), .int .i64 0]) ∧ k ≤ cx ∧ IntsA w' w'.heap.size X (up (kemO W k)) ∧ Below w1.heap.size w1 w') := fun A' c' w1 h => (Kemeny_yes A' (n + n) k c' (twice W) w1 hW2 h hv2).mono fun e w' ⟨X, cx, h1, h2, h3, h4, _⟩ => ⟨X, cx, by rw [h1, kemO_twice, disN_twice], h2, by rw [← kemO_twice]; exact h3, h4⟩
    have HBY : Hid (∀ A' c' w1, RowsA w1 w1.heap.size A' L → Calls Try.prog 39 #[.slice A' n c'] w1 fun e w' => e = .returned (.tuple #[.int .i64 (bestN (margM W) k : Nat), .int .i64 0]) ∧ Below w1.heap.size w1 w') := fun A' c' w1 h => Best_yes A' n k c' W w1 hW.ok (by rw [hW.eq]; exact h) hW.valid
    have HBY2 : Hid (∀ A' c' w1, RowsA w1 w1.heap.size A' (upp (twice W)) → Calls Try.prog 39 #[.slice A' (n + n) c'] w1 fun e w' => e = .returned (.tuple #[.int .i64 (bestN (margM W) k : Nat), .int .i64 0]) ∧ Below w1.heap.size w1 w') := fun A' c' w1 h => by have h9 := Best_yes A' (n + n) k c' (twice W) w1 hW2 h hv2; rwa [bestN_twice hW.ok (by omega)] at h9
    obtain ⟨ao, am, ar, hal, ham, hax⟩ := axis_form (axN W n k) k hk5 fun o ho => (axN_some hW.ok ho).1.len
    have HAY : Hid (∀ A' c' w1, RowsA w1 w1.heap.size A' L → Calls Try.prog 37 #[.slice A' n c'] w1 fun e w' => ∃ X cx, e = .returned (.tuple #[.slice X am cx, .int .i64 ar]) ∧ am ≤ cx ∧ IntsA w' w'.heap.size X (up ao) ∧ Below w1.heap.size w1 w') := fun A' c' w1 h => (Axis_yes A' n k c' W w1 hW.ok (by rw [hW.eq]; exact h) hW.valid).mono fun e w' h => hax _ _ _ h
    have hax2 : axN (twice W) (n + n) k = axN W n k := by have := axN_twice hW.ok (show n ≤ 4 by omega); rwa [Nat.two_mul] at this
    have HAY2 : Hid (∀ A' c' w1, RowsA w1 w1.heap.size A' (upp (twice W)) → Calls Try.prog 37 #[.slice A' (n + n) c'] w1 fun e w' => ∃ X cx, e = .returned (.tuple #[.slice X am cx, .int .i64 ar]) ∧ am ≤ cx ∧ IntsA w' w'.heap.size X (up ao) ∧ Below w1.heap.size w1 w') := fun A' c' w1 h => (Axis_yes A' (n + n) k c' (twice W) w1 hW2 h hv2).mono fun e w' h => hax _ _ _ (by rw [hax2] at h; exact h)
    have HEQ : Hid (∀ (X1 X2 : Option Addr) (c1 c2 m : Nat) (l : List Nat) w1, l.length = m → m ≤ 5 → IntsA w1 w1.heap.size X1 (up l) → IntsA w1 w1.heap.size X2 (up l) → Calls Try.prog 30 #[.slice X1 m c1, .slice X2 m c2] w1 fun e w' => e = .returned (.bool true) ∧ ∃ m, w' = w1.drewN m) := fun X1 X2 c1 c2 m l w1 hm hm5 h1 h2 => by
      have := equal_any X1 X2 m m c1 c2 w1.heap.size w1.heap.size (up l) (up l) w1 (by rw [up_length, hm]) (by rw [up_length, hm]) (by omega) h1 h2
      rwa [decide_eq_true rfl] at this
    have hko := (kemO_spec W k).1.len
    have hd : disN W (kemO W k) ≤ 25 * n := by have := disN_le (kemO W k) (by omega) W; rwa [hW.ok.len] at this
    have HWN : Hid (∀ A' c' (r : Nat) w1, r ≤ 3 → RowsA w1 w1.heap.size A' L → Calls Try.prog 22 #[.slice A' n c', .int .i64 (r : Nat)] w1 fun e w' => e = .returned (.tuple #[.int .i64 (winN W n k r), .int .i64 0]) ∧ Below w1.heap.size w1 w') := fun A' c' r w1 hr h => WinN_yes A' n k c' r W w1 hr hW.ok hW.valid (by rw [hW.eq]; exact h)
    have HWN2 : Hid (∀ A' c' (r : Nat) w1, r ≤ 3 → RowsA w1 w1.heap.size A' (upp (twice W)) → Calls Try.prog 22 #[.slice A' (n + n) c', .int .i64 (r : Nat)] w1 fun e w' => e = .returned (.tuple #[.int .i64 (winN W n k r), .int .i64 0]) ∧ Below w1.heap.size w1 w') := fun A' c' r w1 hr h => by
      have h9 := WinN_yes A' (n + n) k c' r (twice W) w1 hr hW2 hv2 h
      have e9 := winN_twice r hW.ok (show n ≤ 4 by omega)
      rw [Nat.two_mul] at e9
      rwa [e9] at h9
    have HKO := hide hko
    have HDN := hide hd
    have HAL := hide hal
    generalize hdd : disN W (kemO W k) = d at *
    generalize hbb0 : bestN (margM W) k = bn at *
    have hwr : IntKind.i64.wrap (2 * (d : Int)) = 2 * d := by have := HDN.out; rw [IntKind.wrap_i64]; omega
    have hmb : ∀ a b, a < k → b < k → -9 ≤ margM W a b ∧ margM W a b ≤ 9 := fun a b ha hb => by
      rw [margM_eq hW.ok ha hb]
      have := marg_bd a b W
      rw [hW.ok.len] at this
      omega
    have HB1 := hide hmb
    have HB2 := hide (widM_in hmb)
    have HD1 := hide (margM_twice hW.ok (show n ≤ 4 by omega))
    have HD2 := hide (widM_dbl (margM_twice hW.ok (show n ≤ 4 by omega)))
    have HRD : Hid (∀ M w1 B X, RowsA w1 B X (rowsZ M k) → ∀ a b, a < k → b < k → ∃ bx ox ba oa ca, X = some ⟨bx, ox, none⟩ ∧ bx < B ∧ w1.cell? ⟨bx, ox + a, none⟩ = some (.slice (some ⟨ba, oa, none⟩) k ca) ∧ ba < B ∧ w1.cell? ⟨ba, oa + b, none⟩ = some (.int .i64 (M a b))) := fun M w1 B X h a b ha hb => mat_read h ha hb
    generalize widM k (margM (twice W)) = E2 at *
    generalize widM k (margM W) = E1 at *
    generalize margM (twice W) = M2 at *
    generalize margM W = M1 at *
    clear hax hax2 hko hd hdd hbb0 hal hmb
    have HLL : Hid (upp W = L) := by rw [hW.eq]; exact hide rfl
    clear hrow hA hn hqn
    go_enter Try.func19, Try.ntmps19
    have hb := Below.refl w.heap.size w
    go_wp2_with fail
    refine (HVA.out _ hb).mono ?_
    rintro e w1 ⟨rfl, rfl⟩
    go_wp2_with fail
    refine (HFB.out _ hb).mono ?_
    rintro e wa ⟨A1, c1, vs1, blk1, lim1, rfl, hc1, ho1, hr1, hba⟩
    have HO1 := hide ho1
    have HR1 := hide hr1
    clear ho1 hr1
    replace hb := hb.trans (hba.mono hb.size)
    go_wp2_with fail
    refine (HFB.out _ hb).mono ?_
    rintro e wb ⟨A2, c2, vs2, blk2, lim2, rfl, hc2, ho2, hr2, hbb⟩
    have HO3 := hide (own_below HO1.out hbb)
    have HU := hide (own_at ho2 hn1)
    have HU1 := hide hr2.one
    have HUL : Hid (vs2.length = n) := hide (by have := ho2.1; omega)
    have HR2 := hide hr2
    clear ho2 hr2
    have hszb := hbb.size
    have hsza := hba.size
    have hb2 := hb.trans (hbb.mono hb.size)
    go_wp2_with ((at_builtin); refine wpList_appVals _ _ 22 23 (.slice none 0 0) 24 rfl rfl Try.underlying22 info_ints rfl w.heap.size (.slice A1 n c1) n vs1 rfl A2 n c2 vs2 rfl HUL.out hn1 HU.out HU1.out HO3.out (by omega) (by omega) (by omega) ?_; intro g c3 w3 ho4 hc3 hg3 hgr3; have HO4 := hide ho4; have HG := hide hg3; have HGR := hide hgr3; clear ho4 hg3 hgr3)
    obtain ⟨hcl, hfz, hgl⟩ := own_cells HO4.out
    have hrv := twice_rows HO1.out HR1.out hbb HR2.out HG.out HGR.out
    have hgw : w.heap.size ≤ g := (own_lt HO4.out g rfl).1
    have HRV := hide (reverse_rows g 0 (n + n) c3 (vs1 ++ vs2) (L ++ L) w3 (by rw [List.length_append, ← HLL.out, upp_length, hW.ok.len]) (by omega) hcl hrv hfz hgl)
    replace hb := hb2.grown HGR.out (by omega) (fun q hq => (own_lt HO1.out q hq).1)
    clear hcl hfz hrv
    go_wp2_with fail
    refine (HRV.out).mono ?_
    rintro e w4 ⟨rfl, hR, hO, hs4⟩
    replace hb := hb.trans (only_below hO hgw hb.size)
    have e9 : (L ++ L).reverse = upp (twice W) := by rw [← HLL.out, twice_up]
    rw [e9] at hR
    clear e9 hO hs4 HRV HO4 HGR HG HO3 HU HU1 HUL HR2 HO1 HR1 hba hbb hszb hsza hb2 hgl
    go_wp2_with fail
    refine (HFE.out _ hb).mono ?_
    rintro e w2 ⟨A5, c5, rfl, hq5, hR5, hbn⟩
    replace hR := hR.next hbn
    replace hb := hb.trans (hbn.mono hb.size)
    clear hbn
    go_wp2_with fail
    refine (HMY.out _ _ _ hR5).mono ?_
    rintro e w3 ⟨X1, x1, rfl, hx1, hM1, hbn⟩
    replace hR := hR.next hbn
    replace hR5 := hR5.next hbn
    replace hb := hb.trans (hbn.mono hb.size)
    clear hbn
    clear hR5
    go_wp2_with fail
    refine (HMY2.out _ _ _ hR).mono ?_
    rintro e w4 ⟨X2, x2, rfl, hx2, hM2, hbn⟩
    replace hR := hR.next hbn
    replace hM1 := hM1.next hbn
    replace hb := hb.trans (hbn.mono hb.size)
    clear hbn
    go_wp2_with fail
    refine (HFE.out _ hb).mono ?_
    rintro e w5 ⟨A5, c5, rfl, hq5, hR5, hbn⟩
    replace hR := hR.next hbn
    replace hM1 := hM1.next hbn
    replace hM2 := hM2.next hbn
    replace hb := hb.trans (hbn.mono hb.size)
    clear hbn
    go_wp2_with fail
    refine (HWY.out _ _ _ hR5).mono ?_
    rintro e w6 ⟨X3, x3, rfl, hx3, hM3, hbn⟩
    replace hR := hR.next hbn
    replace hM1 := hM1.next hbn
    replace hM2 := hM2.next hbn
    replace hR5 := hR5.next hbn
    replace hb := hb.trans (hbn.mono hb.size)
    clear hbn
    clear hR5
    go_wp2_with fail
    refine (HWY2.out _ _ _ hR).mono ?_
    rintro e w7 ⟨X4, x4, rfl, hx4, hM4, hbn⟩
    replace hR := hR.next hbn
    replace hM1 := hM1.next hbn
    replace hM2 := hM2.next hbn
    replace hM3 := hM3.next hbn
    replace hb := hb.trans (hbn.mono hb.size)
    clear hbn
    go_wp2_with fail
    refine (HFE.out _ hb).mono ?_
    rintro e w8 ⟨A5, c5, rfl, hq5, hR5, hbn⟩
    replace hR := hR.next hbn
    replace hM1 := hM1.next hbn
    replace hM2 := hM2.next hbn
    replace hM3 := hM3.next hbn
    replace hM4 := hM4.next hbn
    replace hb := hb.trans (hbn.mono hb.size)
    clear hbn
    go_wp2_with fail
    refine (HKY.out _ _ _ hR5).mono ?_
    rintro e w9 ⟨X5, x5, rfl, hx5, hK1, hbn⟩
    replace hR := hR.next hbn
    replace hM1 := hM1.next hbn
    replace hM2 := hM2.next hbn
    replace hM3 := hM3.next hbn
    replace hM4 := hM4.next hbn
    replace hR5 := hR5.next hbn
    replace hb := hb.trans (hbn.mono hb.size)
    clear hbn
    clear hR5
    go_wp2_with fail
    refine (HKY2.out _ _ _ hR).mono ?_
    rintro e w10 ⟨X6, x6, rfl, hx6, hK2, hbn⟩
    replace hR := hR.next hbn
    replace hM1 := hM1.next hbn
    replace hM2 := hM2.next hbn
    replace hM3 := hM3.next hbn
    replace hM4 := hM4.next hbn
    replace hK1 := hK1.next hbn
    replace hb := hb.trans (hbn.mono hb.size)
    clear hbn
    go_wp2_with fail
    refine (HFE.out _ hb).mono ?_
    rintro e w11 ⟨A5, c5, rfl, hq5, hR5, hbn⟩
    replace hR := hR.next hbn
    replace hM1 := hM1.next hbn
    replace hM2 := hM2.next hbn
    replace hM3 := hM3.next hbn
    replace hM4 := hM4.next hbn
    replace hK1 := hK1.next hbn
    replace hK2 := hK2.next hbn
    replace hb := hb.trans (hbn.mono hb.size)
    clear hbn
    go_wp2_with fail
    refine (HBY.out _ _ _ hR5).mono ?_
    rintro e w12 ⟨rfl, hbn⟩
    replace hR := hR.next hbn
    replace hM1 := hM1.next hbn
    replace hM2 := hM2.next hbn
    replace hM3 := hM3.next hbn
    replace hM4 := hM4.next hbn
    replace hK1 := hK1.next hbn
    replace hK2 := hK2.next hbn
    replace hR5 := hR5.next hbn
    replace hb := hb.trans (hbn.mono hb.size)
    clear hbn
    clear hR5
    go_wp2_with fail
    refine (HBY2.out _ _ _ hR).mono ?_
    rintro e w13 ⟨rfl, hbn⟩
    replace hR := hR.next hbn
    replace hM1 := hM1.next hbn
    replace hM2 := hM2.next hbn
    replace hM3 := hM3.next hbn
    replace hM4 := hM4.next hbn
    replace hK1 := hK1.next hbn
    replace hK2 := hK2.next hbn
    replace hb := hb.trans (hbn.mono hb.size)
    clear hbn
    go_wp2_with fail
    refine (HFE.out _ hb).mono ?_
    rintro e w14 ⟨A5, c5, rfl, hq5, hR5, hbn⟩
    replace hR := hR.next hbn
    replace hM1 := hM1.next hbn
    replace hM2 := hM2.next hbn
    replace hM3 := hM3.next hbn
    replace hM4 := hM4.next hbn
    replace hK1 := hK1.next hbn
    replace hK2 := hK2.next hbn
    replace hb := hb.trans (hbn.mono hb.size)
    clear hbn
    go_wp2_with fail
    refine (HAY.out _ _ _ hR5).mono ?_
    rintro e w15 ⟨X7, x7, rfl, hx7, hK3, hbn⟩
    replace hR := hR.next hbn
    replace hM1 := hM1.next hbn
    replace hM2 := hM2.next hbn
    replace hM3 := hM3.next hbn
    replace hM4 := hM4.next hbn
    replace hK1 := hK1.next hbn
    replace hK2 := hK2.next hbn
    replace hR5 := hR5.next hbn
    replace hb := hb.trans (hbn.mono hb.size)
    clear hbn
    clear hR5
    go_wp2_with fail
    refine (HAY2.out _ _ _ hR).mono ?_
    rintro e w16 ⟨X8, x8, rfl, hx8, hK4, hbn⟩
    replace hR := hR.next hbn
    replace hM1 := hM1.next hbn
    replace hM2 := hM2.next hbn
    replace hM3 := hM3.next hbn
    replace hM4 := hM4.next hbn
    replace hK1 := hK1.next hbn
    replace hK2 := hK2.next hbn
    replace hK3 := hK3.next hbn
    replace hb := hb.trans (hbn.mono hb.size)
    clear hbn
    go_wp2_with fail
    refine (HEQ.out _ _ _ _ _ _ _ HKO.out hk5 hK1 hK2).mono ?_
    rintro e w17 ⟨rfl, m17, rfl⟩
    replace hR := hR.keep (w' := w16.drewN m17) fun _ _ => rfl
    replace hM1 := hM1.keep (w' := w16.drewN m17) fun _ _ => rfl
    replace hM2 := hM2.keep (w' := w16.drewN m17) fun _ _ => rfl
    replace hM3 := hM3.keep (w' := w16.drewN m17) fun _ _ => rfl
    replace hM4 := hM4.keep (w' := w16.drewN m17) fun _ _ => rfl
    replace hK1 := hK1.keep (w' := w16.drewN m17) fun _ _ => rfl
    replace hK2 := hK2.keep (w' := w16.drewN m17) fun _ _ => rfl
    replace hK3 := hK3.keep (w' := w16.drewN m17) fun _ _ => rfl
    replace hK4 := hK4.keep (w' := w16.drewN m17) fun _ _ => rfl
    replace hb := below_drewN hb m17
    replace hR := hR.more (B' := (w16.drewN m17).heap.size) (Nat.le_refl _)
    replace hM1 := hM1.more (B' := (w16.drewN m17).heap.size) (Nat.le_refl _)
    replace hM2 := hM2.more (B' := (w16.drewN m17).heap.size) (Nat.le_refl _)
    replace hM3 := hM3.more (B' := (w16.drewN m17).heap.size) (Nat.le_refl _)
    replace hM4 := hM4.more (B' := (w16.drewN m17).heap.size) (Nat.le_refl _)
    replace hK1 := hK1.more (B' := (w16.drewN m17).heap.size) (Nat.le_refl _)
    replace hK2 := hK2.more (B' := (w16.drewN m17).heap.size) (Nat.le_refl _)
    replace hK3 := hK3.more (B' := (w16.drewN m17).heap.size) (Nat.le_refl _)
    replace hK4 := hK4.more (B' := (w16.drewN m17).heap.size) (Nat.le_refl _)
    generalize w16.drewN m17 = w17 at *
    clear hK1 hK2
    go_wp2_with fail
    refine (HEQ.out _ _ _ _ _ _ _ HAL.out ham hK3 hK4).mono ?_
    rintro e w18 ⟨rfl, m18, rfl⟩
    replace hR := hR.keep (w' := w17.drewN m18) fun _ _ => rfl
    replace hM1 := hM1.keep (w' := w17.drewN m18) fun _ _ => rfl
    replace hM2 := hM2.keep (w' := w17.drewN m18) fun _ _ => rfl
    replace hM3 := hM3.keep (w' := w17.drewN m18) fun _ _ => rfl
    replace hM4 := hM4.keep (w' := w17.drewN m18) fun _ _ => rfl
    replace hK3 := hK3.keep (w' := w17.drewN m18) fun _ _ => rfl
    replace hK4 := hK4.keep (w' := w17.drewN m18) fun _ _ => rfl
    replace hb := below_drewN hb m18
    replace hR := hR.more (B' := (w17.drewN m18).heap.size) (Nat.le_refl _)
    replace hM1 := hM1.more (B' := (w17.drewN m18).heap.size) (Nat.le_refl _)
    replace hM2 := hM2.more (B' := (w17.drewN m18).heap.size) (Nat.le_refl _)
    replace hM3 := hM3.more (B' := (w17.drewN m18).heap.size) (Nat.le_refl _)
    replace hM4 := hM4.more (B' := (w17.drewN m18).heap.size) (Nat.le_refl _)
    replace hK3 := hK3.more (B' := (w17.drewN m18).heap.size) (Nat.le_refl _)
    replace hK4 := hK4.more (B' := (w17.drewN m18).heap.size) (Nat.le_refl _)
    generalize w17.drewN m18 = w18 at *
    clear hK3 hK4
    obtain ⟨wz, hwz⟩ : ∃ wz : World, wz = w18 := ⟨_, rfl⟩
    subst hwz
    have HM1 := hide hM1
    have HM2 := hide hM2
    have HM3 := hide hM3
    have HM4 := hide hM4
    have HR := hide hR
    have HBZ := hide hb
    have hbz := hb.size
    clear hM1 hM2 hM3 hM4 hR hb
    go_wp2_with fail
    go_loopw [178] (fun i wr => ∃ a : Nat, a ≤ k ∧ i = .int .i64 a ∧ Below wz.heap.size wz wr) (fun i _ => k - (intOf i).toNat)
    case atStart => exact ⟨0, Nat.zero_le _, rfl, Below.refl _ _⟩
    case round =>
      obtain ⟨a, ha, rfl, hbel⟩ := hrel
      have HW1 := hide hbel
      by_cases hlt : a < k
      · obtain ⟨b1, o1, r1, q1, z1, rfl, hl1, hc1, hk1', hm1⟩ := HRD.out M1 wr wz.heap.size X1 (HM1.out.below hbel) a a hlt hlt
        clear hbel
        have l1 : b1 < wr.heap.size := by have := HW1.out.size; omega
        go_wp2_with fail
        clear hc1 hm1 hl1 hk1' l1
        obtain ⟨wp, rfl⟩ : ∃ wp : World, wp = wr := ⟨_, rfl⟩
        go_loopw [186] (fun i wr => ∃ b : Nat, b ≤ k ∧ i = .int .i64 b ∧ Below wz.heap.size wz wr) (fun i _ => k - (intOf i).toNat)
        case atStart => exact ⟨0, Nat.zero_le _, rfl, HW1.out⟩
        case round =>
          obtain ⟨b, hbk, rfl, hbel⟩ := hrel
          have HW2 := hide hbel
          by_cases hltb : b < k
          · skip
            obtain ⟨b1x, o1x, r1, q1, z1, hX1, hl1, hc1, hk1, hm1⟩ := HRD.out M1 wr wz.heap.size _ (HM1.out.below hbel) a b hlt hltb
            injection hX1 with hX1; injection hX1 with e1 e2
            subst e1; subst e2
            obtain ⟨b2, o2, r2, q2, z2, rfl, hl2, hc2, hk2, hm2⟩ := HRD.out M2 wr wz.heap.size X2 (HM2.out.below hbel) a b hlt hltb
            obtain ⟨b3, o3, r3, q3, z3, rfl, hl3, hc3, hk3, hm3⟩ := HRD.out E1 wr wz.heap.size X3 (HM3.out.below hbel) a b hlt hltb
            obtain ⟨b4, o4, r4, q4, z4, rfl, hl4, hc4, hk4, hm4⟩ := HRD.out E2 wr wz.heap.size X4 (HM4.out.below hbel) a b hlt hltb
            have hzz := hbel.size
            obtain ⟨g1, g2⟩ := HB1.out a b hlt hltb
            obtain ⟨g3, g4⟩ := HB2.out a b hlt hltb
            rw [HD1.out a b hlt hltb] at hm2
            rw [HD2.out a b hlt hltb] at hm4
            generalize M1 a b = m1 at *
            generalize E1 a b = d1 at *
            have hw1 : IntKind.i64.wrap (2 * m1) = 2 * m1 := by rw [IntKind.wrap_i64]; omega
            have hw2 : IntKind.i64.wrap (2 * d1) = 2 * d1 := by rw [IntKind.wrap_i64]; omega
            have l1 : b1 < wr.heap.size := by omega
            have l2 : b2 < wr.heap.size := by omega
            have l3 : b3 < wr.heap.size := by omega
            have l4 : b4 < wr.heap.size := by omega
            have k1 : r1 < wr.heap.size := by omega
            have k2 : r2 < wr.heap.size := by omega
            have k3 : r3 < wr.heap.size := by omega
            have k4 : r4 < wr.heap.size := by omega
            clear hbel
            go_wp2_with fail
            refine wp_region_below (by kernel_rfl) (by kernel_rfl) ?_
            refine wpQuiet_val' (.slice (some ⟨b1, o1, none⟩) k x1) (by rfl) (fun w' hw' => by go_simp) ?_
            simp only [put_lit, List.set_cons_succ, List.set_cons_zero]
            refine wpQuiet_val' (.int .i64 (a : Nat)) (by rfl) (fun w' hw' => by go_simp) ?_
            simp only [put_lit, List.set_cons_succ, List.set_cons_zero]
            refine wpQuiet_val' (.pointer (some ⟨b1, o1 + a, none⟩)) (by rfl) (fun w' hw' => by go_simp) ?_
            simp only [put_lit, List.set_cons_succ, List.set_cons_zero]
            refine wpQuiet_val' (.slice (some ⟨r1, q1, none⟩) k z1) (by rfl) (fun w' hw' => by have e0 := (hw'.cell (p := ⟨b1, o1 + a, none⟩) l1).trans hc1; go_simp) ?_
            simp only [put_lit, List.set_cons_succ, List.set_cons_zero]
            refine wpQuiet_val' (.int .i64 (b : Nat)) (by rfl) (fun w' hw' => by go_simp) ?_
            simp only [put_lit, List.set_cons_succ, List.set_cons_zero]
            refine wpQuiet_val' (.pointer (some ⟨r1, q1 + b, none⟩)) (by rfl) (fun w' hw' => by go_simp) ?_
            simp only [put_lit, List.set_cons_succ, List.set_cons_zero]
            refine wpQuiet_val' (.int .i64 m1) (by rfl) (fun w' hw' => by have e0 := (hw'.cell (p := ⟨r1, q1 + b, none⟩) k1).trans hm1; go_simp) ?_
            simp only [put_lit, List.set_cons_succ, List.set_cons_zero]
            refine wpQuiet_val' (.int .i64 (2 * m1)) (by rfl) (fun w' hw' => by go_simp) ?_
            simp only [put_lit, List.set_cons_succ, List.set_cons_zero]
            refine wpQuiet_val' (.slice (some ⟨b2, o2, none⟩) k x2) (by rfl) (fun w' hw' => by go_simp) ?_
            simp only [put_lit, List.set_cons_succ, List.set_cons_zero]
            refine wpQuiet_val' (.int .i64 (a : Nat)) (by rfl) (fun w' hw' => by go_simp) ?_
            simp only [put_lit, List.set_cons_succ, List.set_cons_zero]
            refine wpQuiet_val' (.pointer (some ⟨b2, o2 + a, none⟩)) (by rfl) (fun w' hw' => by go_simp) ?_
            simp only [put_lit, List.set_cons_succ, List.set_cons_zero]
            refine wpQuiet_val' (.slice (some ⟨r2, q2, none⟩) k z2) (by rfl) (fun w' hw' => by have e0 := (hw'.cell (p := ⟨b2, o2 + a, none⟩) l2).trans hc2; go_simp) ?_
            simp only [put_lit, List.set_cons_succ, List.set_cons_zero]
            refine wpQuiet_val' (.int .i64 (b : Nat)) (by rfl) (fun w' hw' => by go_simp) ?_
            simp only [put_lit, List.set_cons_succ, List.set_cons_zero]
            refine wpQuiet_val' (.pointer (some ⟨r2, q2 + b, none⟩)) (by rfl) (fun w' hw' => by go_simp) ?_
            simp only [put_lit, List.set_cons_succ, List.set_cons_zero]
            refine wpQuiet_val' (.int .i64 (2 * m1)) (by rfl) (fun w' hw' => by have e0 := (hw'.cell (p := ⟨r2, q2 + b, none⟩) k2).trans hm2; go_simp) ?_
            simp only [put_lit, List.set_cons_succ, List.set_cons_zero]
            refine wpQuiet_val' (.bool false) (by rfl) (fun w' hw' => by go_simp) ?_
            simp only [put_lit, List.set_cons_succ, List.set_cons_zero]
            refine wpQuiet_val' (.bool false) (by rfl) (fun w' hw' => by go_simp) ?_
            simp only [put_lit, List.set_cons_succ, List.set_cons_zero]
            refine wpQuiet_val' (.slice (some ⟨b3, o3, none⟩) k x3) (by rfl) (fun w' hw' => by go_simp) ?_
            simp only [put_lit, List.set_cons_succ, List.set_cons_zero]
            refine wpQuiet_val' (.int .i64 (a : Nat)) (by rfl) (fun w' hw' => by go_simp) ?_
            simp only [put_lit, List.set_cons_succ, List.set_cons_zero]
            refine wpQuiet_val' (.pointer (some ⟨b3, o3 + a, none⟩)) (by rfl) (fun w' hw' => by go_simp) ?_
            simp only [put_lit, List.set_cons_succ, List.set_cons_zero]
            refine wpQuiet_val' (.slice (some ⟨r3, q3, none⟩) k z3) (by rfl) (fun w' hw' => by have e0 := (hw'.cell (p := ⟨b3, o3 + a, none⟩) l3).trans hc3; go_simp) ?_
            simp only [put_lit, List.set_cons_succ, List.set_cons_zero]
            refine wpQuiet_val' (.int .i64 (b : Nat)) (by rfl) (fun w' hw' => by go_simp) ?_
            simp only [put_lit, List.set_cons_succ, List.set_cons_zero]
            refine wpQuiet_val' (.pointer (some ⟨r3, q3 + b, none⟩)) (by rfl) (fun w' hw' => by go_simp) ?_
            simp only [put_lit, List.set_cons_succ, List.set_cons_zero]
            refine wpQuiet_val' (.int .i64 d1) (by rfl) (fun w' hw' => by have e0 := (hw'.cell (p := ⟨r3, q3 + b, none⟩) k3).trans hm3; go_simp) ?_
            simp only [put_lit, List.set_cons_succ, List.set_cons_zero]
            refine wpQuiet_val' (.int .i64 (2 * d1)) (by rfl) (fun w' hw' => by go_simp) ?_
            simp only [put_lit, List.set_cons_succ, List.set_cons_zero]
            refine wpQuiet_val' (.slice (some ⟨b4, o4, none⟩) k x4) (by rfl) (fun w' hw' => by go_simp) ?_
            simp only [put_lit, List.set_cons_succ, List.set_cons_zero]
            refine wpQuiet_val' (.int .i64 (a : Nat)) (by rfl) (fun w' hw' => by go_simp) ?_
            simp only [put_lit, List.set_cons_succ, List.set_cons_zero]
            refine wpQuiet_val' (.pointer (some ⟨b4, o4 + (a : Nat), none⟩)) (by rfl) (fun w' hw' => by go_simp) ?_
            simp only [put_lit, List.set_cons_succ, List.set_cons_zero]
            refine wpQuiet_val' (.slice (some ⟨r4, q4, none⟩) k z4) (by rfl) (fun w' hw' => by have e0 := (hw'.cell (p := ⟨b4, o4 + a, none⟩) l4).trans hc4; go_simp) ?_
            simp only [put_lit, List.set_cons_succ, List.set_cons_zero]
            refine wpQuiet_val' (.int .i64 (b : Nat)) (by rfl) (fun w' hw' => by go_simp) ?_
            simp only [put_lit, List.set_cons_succ, List.set_cons_zero]
            refine wpQuiet_val' (.pointer (some ⟨r4, q4 + (b : Nat), none⟩)) (by rfl) (fun w' hw' => by go_simp) ?_
            simp only [put_lit, List.set_cons_succ, List.set_cons_zero]
            refine wpQuiet_val' (.int .i64 (2 * d1)) (by rfl) (fun w' hw' => by have e0 := (hw'.cell (p := ⟨r4, q4 + b, none⟩) k4).trans hm4; go_simp) ?_
            simp only [put_lit, List.set_cons_succ, List.set_cons_zero]
            refine wpQuiet_val' (.bool false) (by rfl) (fun w' hw' => by go_simp) ?_
            simp only [put_lit, List.set_cons_succ, List.set_cons_zero]
            refine wpQuiet_val' (.bool false) (by rfl) (fun w' hw' => by go_simp) ?_
            simp only [put_lit, List.set_cons_succ, List.set_cons_zero]
            refine wpQuiet_nil ?_
            intro w9 hb9
            have HB9 := hide (HW2.out.trans (hb9.mono hzz))
            clear hb9
            go_wp2
            go_roundw
            case rel => exact ⟨b + 1, by omega, by go_num, HB9.out⟩
            case measure => simp [intOf]; omega
          · obtain rfl : k = b := by omega
            clear hbel
            go_wp2
            go_roundw
            case rel => exact ⟨a + 1, by omega, by go_num, HW2.out⟩
            case measure => simp [intOf]; omega
      · obtain rfl : k = a := by omega
        have hR := HR.out.next HW1.out
        have hb := HBZ.out.trans (HW1.out.mono hbz)
        clear hbel
        go_wp2_with fail
        go_loopw [225] (fun i wq => ∃ r : Nat, r ≤ 4 ∧ i = .int .i64 r ∧ Hid (RowsA wq wq.heap.size (some ⟨g, 0, none⟩) (upp (twice W))) ∧ Below w.heap.size w wq) (fun i _ => 4 - (intOf i).toNat)
        case atStart => exact ⟨0, by omega, rfl, hide hR, hb⟩
        case round =>
          obtain ⟨r, hr, rfl, HRq, hb⟩ := hrel
          by_cases hlt4 : r < 4
          · have hR := HRq.out
            clear HRq
            go_wp2_with fail
            refine (HFE.out _ hb).mono ?_
            rintro e w61 ⟨A5, c5, rfl, hq5, hR5, hbn⟩
            replace hR := hR.next hbn
            replace hb := hb.trans (hbn.mono hb.size)
            clear hbn
            go_wp2_with fail
            refine (HWN.out _ _ r _ (by omega) hR5).mono ?_
            rintro e w62 ⟨rfl, hbn⟩
            replace hR := hR.next hbn
            replace hR5 := hR5.next hbn
            replace hb := hb.trans (hbn.mono hb.size)
            clear hbn
            clear hR5
            go_wp2_with fail
            refine (HWN2.out _ _ r _ (by omega) hR).mono ?_
            rintro e w63 ⟨rfl, hbn⟩
            replace hR := hR.next hbn
            replace hb := hb.trans (hbn.mono hb.size)
            clear hbn
            go_wp2
            go_roundw
            case rel => exact ⟨r + 1, by omega, by go_num, hide hR, hb⟩
            case measure => simp [intOf]; omega
          · obtain rfl : r = 4 := by omega
            go_wp2_with fail
            refine (awake_any _).mono ?_
            rintro e w99 ⟨rfl, hbn⟩
            replace hb := hb.trans (hbn.mono hb.size)
            clear hbn
            go_wp2
            go_ret
            exact ⟨rfl, hb⟩
end Go.Proofs.Ytejijddfepgnkaa
