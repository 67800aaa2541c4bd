/-
  The walk of SwapAgain.
-/
import Derived.Test.YtilnbiaabhdfgaaLawSwapCore
import Derived.Test.YtilnbiaabhdfgaaFewApi
import Derived.Test.YtilnbiaabhdfgaaRefOrders
namespace Go.Proofs.Ytilnbiaabhdfgaa
open Go.RowKit
set_option linter.unusedVariables false
set_option linter.unusedSimpArgs false

theorem take_snoc_nat (l : List Nat) (k : Nat) (h : k < l.length) : l.take (k + 1) = l.take k ++ [l.getD k 0] := by
  rw [List.take_succ_eq_append_getElem h, List.getD_eq_getElem?_getD, List.getElem?_eq_getElem h]; rfl
theorem upp_take_snoc (W : List (List Nat)) (k : Nat) (h : k < W.length) : upp (W.take (k + 1)) = upp (W.take k) ++ [up (W.getD k [])] := by
  rw [List.take_succ_eq_append_getElem h, List.getD_eq_getElem?_getD, List.getElem?_eq_getElem h]
  simp only [upp, List.map_append, List.map_cons, List.map_nil]; rfl
def againW (W : List (List Nat)) : List (List Nat) := W.map fun r => r.map (place (tradeN W))
theorem againW_row {W : List (List Nat)} {n i : Nat} (hW : WOk W n) (hi : i < n) : (againW W).getD i [] = (W.getD i []).map (place (tradeN W)) := by
  have hl := hW.len
  simp [againW, List.getD_eq_getElem?_getD, hl, hi]
theorem place_map {t l : List Nat} {n : Nat} (ht : Ord t n) (hl : Ord l n) {g : Nat} (hg : g < n) : place (l.map (place t)) g = place l (t.getD g 0) := by
  have hpt : ∀ g, g < n → place t (t.getD g 0) = g := fun g hg => ht.inj _ _ (by have := place_lt (l := t) ((ht.mem _).2 (ht.getD_lt hg)); rw [ht.len] at this; exact this.1) hg (place_lt ((ht.mem _).2 (ht.getD_lt hg))).2
  have hin : t.getD g 0 ∈ l := (hl.mem _).2 (ht.getD_lt hg)
  obtain ⟨p1, p2⟩ := place_lt hin
  have hm : g ∈ l.map (place t) := List.mem_map.2 ⟨_, hin, hpt g hg⟩
  have hat : ∀ j, j < l.length → (l.map (place t)).getD j 0 = place t (l.getD j 0) := fun j hj => by simp [List.getD_eq_getElem?_getD, hj]
  have h1 : place (l.map (place t)) g ≤ place l (t.getD g 0) := place_first (by rw [List.length_map]; exact p1) (by rw [hat _ p1, p2, hpt g hg])
  obtain ⟨q1, q2⟩ := place_lt hm
  rw [List.length_map] at q1
  rw [hat _ q1] at q2
  have h2 : l.getD (place (l.map (place t)) g) 0 = t.getD g 0 := by
    have hlt : l.getD (place (l.map (place t)) g) 0 < n := hl.getD_lt (by rw [← hl.len]; exact q1)
    have := (place_lt ((ht.mem _).2 hlt)).2
    rw [q2] at this; exact this.symm
  have h3 := place_first q1 h2
  omega
theorem again_ord {t l : List Nat} {n : Nat} (ht : Ord t n) (hl : Ord l n) : Ord (l.map (place t)) n := by
  refine ⟨by rw [List.length_map]; exact hl.len, fun g => ⟨fun h => ?_, fun h => ?_⟩⟩
  · obtain ⟨y, hy, rfl⟩ := List.mem_map.1 h
    have := (place_lt ((ht.mem y).2 ((hl.mem y).1 hy))).1
    rw [ht.len] at this; exact this
  · refine List.mem_map.2 ⟨t.getD g 0, (hl.mem _).2 (ht.getD_lt h), ?_⟩
    exact ht.inj _ _ (by have := place_lt (l := t) ((ht.mem _).2 (ht.getD_lt h)); rw [ht.len] at this; exact this.1) h (place_lt ((ht.mem _).2 (ht.getD_lt h))).2
theorem again_ok {W : List (List Nat)} {n : Nat} (hW : WOk W n) : WOk (againW W) n :=
  ⟨by simp [againW, hW.len], hW.pos, hW.le, fun i hi => by rw [againW_row hW hi]; exact again_ord (tradeN_ord hW) (hW.rows i hi)⟩
theorem again_trade {W : List (List Nat)} {n : Nat} (hW : WOk W n) : tradeN (againW W) = List.range n := by
  have ht := hW.ttc
  have hn : Ttc (againW W) n (fun i => i) (traded W (List.range n)).2 := by
    refine ⟨fun i hi => hi, fun i j _ _ e => e, fun i hi => rfl, fun i y hi hy h => ?_⟩
    rw [againW_row hW hi, place_map (tradeN_ord hW) (hW.rows i hi) hy, place_map (tradeN_ord hW) (hW.rows i hi) hi, tradeN_at hW hy, tradeN_at hW hi] at h
    have := ht.pre i _ hi (ht.lt y hy) h
    rw [ht.same y hy] at this
    exact this
  apply ord_ext (tradeN_ord (again_ok hW)).len (by simp)
  intro i hi
  rw [tradeN_at (again_ok hW) hi, range_getD hi]
  exact (again_ok hW).ttc.unique hn (again_ok hW).rows i hi
theorem upp_valid {W : List (List Nat)} {n : Nat} (h : WOk W n) : validB (upp W) = true ∧ toNN (upp W) = W := by
  constructor
  · rw [validB_iff, upp_length, h.len]
    refine ⟨⟨h.pos, h.le⟩, fun l hl => ?_⟩
    obtain ⟨i, hi, rfl⟩ := List.getElem_of_mem hl
    rw [upp_length, h.len] at hi
    have e : (upp W)[i] = (upp W).getD i [] := by simp [List.getD_eq_getElem?_getD, h.len, hi]
    rw [e, upp_getD]
    exact ord_B (h.rows i hi)
  · simp only [toNN, upp, List.map_map]
    have : ∀ l ∈ W, (toN ∘ up) l = l := fun l _ => toN_up l
    rw [List.map_congr_left this, List.map_id']

set_option maxRecDepth 100000 in
set_option maxHeartbeats 3200000 in
theorem swapAgain_any (A : Option Addr) (n c : Nat) (L : List (List Int)) (w : World) (hn : L.length = n) (hlen : n ≤ 9223372036854775807) (hrow : ∀ l ∈ L, l.length ≤ 9223372036854775807) (hA : RowsA w w.heap.size A L) :
    Calls Try.prog 14 #[.slice A n c] w fun e w' => e = .returned (.bool true) ∧ Below w.heap.size w w' := by
  obtain ⟨q, hq⟩ : ∃ q, (fewL L).length = q := ⟨_, rfl⟩
  have HFE := hide (few_in (c := c) hn hlen hrow hq hA)
  have HVA := hide (valid_in (c := c) hn hlen hrow hA)
  cases hv : validB L
  · have HT := hide (fewTrade_no hq hv)
    clear hv hrow hn hA hq
    go_enter Try.func14, Try.ntmps14
    have hb := Below.refl w.heap.size w
    go_wp2_with fail
    refine (HFE.out _ hb).mono ?_
    rintro e w1 ⟨A1, c1, rfl, hq1, hR1, hbn⟩
    replace hb := hb.trans (hbn.mono hb.size)
    clear hbn
    go_wp2_with fail
    refine (HT.out _ _ _ hR1).mono ?_
    rintro e w2 ⟨rfl, hbn⟩
    replace hR1 := hR1.next hbn
    replace hb := hb.trans (hbn.mono hb.size)
    clear hbn
    clear hR1
    go_wp2_with fail
    refine (awake_any _).mono ?_
    rintro e w3 ⟨rfl, hbn⟩
    replace hb := hb.trans (hbn.mono hb.size)
    clear hbn
    go_wp2
    go_ret
    exact ⟨rfl, hb⟩
  · rw [hv] at HVA
    have hqn : q = n := by rw [← hq, few_same hv, hn]
    subst hqn
    obtain ⟨W, hW⟩ : ∃ W, NatsOf L q W := ⟨_, nats_of hv hn⟩
    rw [few_same hv] at HFE
    have h5 := hW.ok.le
    have h1 := hW.ok.pos
    have HOT := hide (okTrade hW)
    have HWK := hide hW.ok
    have HA : Hid (RowsA w w.heap.size A (upp W)) := by rw [hW.eq]; exact hA
    have HTO := hide (tradeN_ord hW.ok)
    have HTB : Hid (ordB (up (tradeN W)) q = true) := ord_B (tradeN_ord hW.ok)
    clear hv hrow hn hA hq hW
    go_enter Try.func14, Try.ntmps14
    have hb := Below.refl w.heap.size w
    go_wp2_with fail
    refine (HFE.out _ hb).mono ?_
    rintro e w1 ⟨A1, c1, rfl, hq1, hR1, hbn⟩
    replace hb := hb.trans (hbn.mono hb.size)
    clear hbn
    go_wp2_with fail
    refine (HOT.out _ _ _ hR1).mono ?_
    rintro e w2 ⟨T2, k2, rfl, hT2, hbn⟩
    replace hR1 := hR1.next hbn
    replace hb := hb.trans (hbn.mono hb.size)
    clear hbn
    clear hR1
    go_wp2_with fail
    refine (HVA.out _ hb).mono ?_
    rintro e w3 ⟨rfl, rfl⟩
    have HRO := hide (refIsOrder_any T2 q k2 _ q (up (tradeN W)) w2 (by rw [up_length]; exact HTO.out.len) (by omega) (by omega) hT2)
    rw [HTB.out] at HRO
    go_wp2_with fail
    refine (HRO.out).mono ?_
    rintro e w4 ⟨rfl, rfl⟩
    go_wp2
    clear HRO
    have HBS := hide hb
    have HT2 := hide hT2
    clear hb hT2
    have hb0 := Below.refl w2.heap.size w2
    go_loopw [5, 43] (fun v i wr => ∃ (k c' : Nat) (X : Option Addr) (vs : List Value), k ≤ q ∧ i = .int .i64 k ∧ v = .slice X k c' ∧ k ≤ c' ∧ wr.ownsRow w2.heap.size 23 1 (.slice X k c') k vs ∧ RowVals wr (Value.slice X k c').ownBlock vs (upp ((againW W).take k)) ∧ Below w2.heap.size w2 wr) (fun _ i _ => q - (intOf i).toNat)
    case atStart => exact ⟨0, 0, none, [], Nat.zero_le _, rfl, rfl, Nat.le_refl _, World.ownsRow_nil _ _ _ _, RowVals.nil_, hb0⟩
    case round =>
      clear hb0
      obtain ⟨k, c', X, vs, hk, rfl, rfl, hkc, hown, hrv, hb⟩ := hrel
      obtain ⟨wo, rfl⟩ : ∃ wo : World, wo = wr := ⟨_, rfl⟩
      have HOW := hide hown
      have HRV := hide hrv
      have HBW := hide hb
      have hbw := HBS.out.trans (hb.mono HBS.out.size)
      have hszw := hb.size
      clear hown hrv
      by_cases hlt : k < q
      · obtain ⟨b3, o3, A3, n3, c3, rfl, hb3, hc3, hx3, hle3, hI3⟩ := (HA.out.next hbw).at_ (k := k) (by rw [upp_length, HWK.out.len]; exact hlt)
        rw [upp_getD] at hI3 hx3
        have hri := HWK.out.rows k hlt
        obtain rfl : q = n3 := by have := hx3.out; rw [up_length, hri.len] at this; exact this
        have HRI := hide hri
        have HI3 := hide hI3
        have HAR := hide (againW_row HWK.out hlt)
        clear hx3 hri hI3
        go_wp2
        have hw0 := Below.refl wo.heap.size wo
        go_loopw [8, 49] (fun v i wi => ∃ (j c' : Nat) (Z : Option Addr), j ≤ q ∧ i = .int .i64 j ∧ v = .slice Z j c' ∧ j ≤ c' ∧ wi.ownsRow wo.heap.size 3 1 (.slice Z j c') j ((up (((W.getD k []).take j).map (place (tradeN W)))).map (Value.int .i64)) ∧ Below wo.heap.size wo wi) (fun _ i _ => q - (intOf i).toNat)
        case atStart => exact ⟨0, 0, none, Nat.zero_le _, rfl, rfl, Nat.le_refl _, World.ownsRow_nil _ _ _ _, hw0⟩
        case round =>
          clear hw0 hc3
          obtain ⟨j, cz, Z, hj, rfl, rfl, hjc, hown, hwi⟩ := hrel
          have HOZ := hide hown
          have hszi := hwi.size
          clear hown
          by_cases hltj : j < q
          · obtain ⟨b4, o4, x, rfl, hb4, hc4, hx4⟩ := (HI3.out.next hwi).at_ (k := j) (by rw [up_length, HRI.out.len]; exact hltj)
            have hx5 := hx4.out
            rw [up_getD] at hx5
            have hgn := HRI.out.getD_lt hltj
            have htake := take_snoc_nat (W.getD k []) j (by rw [HRI.out.len]; exact hltj)
            obtain ⟨g, hgg⟩ : ∃ g, (W.getD k []).getD j 0 = g := ⟨_, rfl⟩
            rw [hgg] at hx5 hgn htake
            subst hx5
            have HTK := hide htake
            have hIX := index_any T2 q k2 _ (up (tradeN W)) (g : Int) wr (by rw [up_length]; exact HTO.out.len) (by omega) ((HT2.out.below (HBW.out.trans (hwi.mono hszw))))
            rw [idx_up_mem ((HTO.out.mem g).2 hgn)] at hIX
            have HIX := hide hIX
            obtain ⟨pl, hpl⟩ : ∃ pl, place (tradeN W) g = pl := ⟨_, rfl⟩
            rw [hpl] at HIX
            have HPL := hide hpl
            clear hx4 hgg htake hIX hpl
            go_wp2_with fail
            refine (HIX.out).mono ?_
            rintro e w' ⟨rfl, rfl⟩
            go_wp2_with ((at_builtin); refine wpList_app1 (w0 := wr) _ _ 23 3 (.int .i64 0) 8 rfl rfl Try.underlying23 info_int rfl wo.heap.size (.slice Z j cz) j _ (.int .i64 (pl : Int)) rfl rfl rfl ⟨_, rfl⟩ HOZ.out rfl (by omega) (by omega) (by omega) ?_; intro g1 cg w5 hown1 hc1 hc1m hg1 hgl hgrow; have HOW1 := hide hown1; have HG := hide hgrow; clear hown1 hgrow)
            go_roundw
            case rel =>
              refine ⟨j + 1, cg, some ⟨g1, 0, none⟩, by omega, by go_num, rfl, hc1, ?_, hwi.grown HG.out hszi (fun q hq => (own_lt HOZ.out q hq).1)⟩
              have e : (up (((W.getD k []).take (j + 1)).map (place (tradeN W)))).map (Value.int .i64) = (up (((W.getD k []).take j).map (place (tradeN W)))).map (Value.int .i64) ++ [Value.int .i64 (pl : Int)] := by rw [HTK.out, ← HPL.out]; simp [up]
              rw [e]; exact HOW1.out
            case measure => simp [intOf] <;> omega
          · obtain rfl : q = j := by omega
            have hrow : ((W.getD k []).take q).map (place (tradeN W)) = (againW W).getD k [] := by rw [HAR.out, List.take_of_length_le (by rw [HRI.out.len]; omega)]
            have HOZ2 : Hid (wr.ownsRow wo.heap.size 3 1 (.slice Z q cz) q ((up ((againW W).getD k [])).map (Value.int .i64))) := by rw [← hrow]; exact HOZ.out
            have HOX := hide (own_next HOW.out hwi)
            have HRX := hide (HRV.out.next hwi)
            have HLR : Hid (((againW W).getD k []).length = q) := by show _ = _; rw [HAR.out, List.length_map]; exact HRI.out.len
            clear hrow HOZ
            go_wp2_with ((at_builtin); refine wpList_app1 (w0 := wr) _ _ 22 23 (.slice none 0 0) 24 rfl rfl Try.underlying22 info_ints rfl w2.heap.size (.slice X k c') k vs (.slice Z q cz) rfl rfl rfl ⟨_, rfl⟩ HOX.out rfl (by omega) (by omega) (by omega) ?_; intro g1 cg w5 hown1 hc1 hc1m hg1 hgl hgrow; have HOW1 := hide hown1; have HG := hide hgrow; have HG1 := hide hg1; clear hown1 hgrow hg1)
            go_roundw
            case rel =>
              refine ⟨k + 1, cg, some ⟨g1, 0, none⟩, _, by omega, by go_num, rfl, hc1, HOW1.out, ?_, (HBW.out.trans (hwi.mono hszw)).grown HG.out (by omega) (fun q hq => (own_lt HOW.out q hq).1)⟩
              have e := upp_take_snoc (againW W) k (by simp [againW, HWK.out.len]; exact hlt)
              rw [e]
              refine HRX.out.snoc HG.out HG1.out (by rw [up_length]; exact HLR.out) (by omega) (ints_of_own HOZ2.out) (fun _ => off_own (n := q) (c := cz) fun gg hq e2 => ?_)
              have h1 := (own_lt HOZ2.out gg hq).1
              have h2 := (own_lt HOW.out gg e2.symm).2
              omega
            case measure => simp [intOf] <;> omega
      · obtain rfl : q = k := by omega
        have hfull : (againW W).take q = againW W := List.take_of_length_le (by simp [againW, HWK.out.len])
        have hR : RowsA wo wo.heap.size X (upp (againW W)) := by have := rows_of HRV.out HOW.out; rwa [hfull] at this
        have hvk := upp_valid (again_ok HWK.out)
        have HTR := hide (Trade_yes X q c' _ (upp (againW W)) wo (by rw [upp_length, (again_ok HWK.out).len]) hR hvk.1)
        rw [hvk.2, again_trade HWK.out] at HTR
        have HVK := hide hvk
        have hgr : ∀ i, i < q → (List.range q).getD i 0 = i := fun i hi => range_getD hi
        have HGR := hide hgr
        clear hfull hvk hgr hb
        go_wp2_with fail
        refine (HTR.out).mono ?_
        rintro e w5 ⟨U, ku, rfl, hU, hb5⟩
        have hR5 := hR.next hb5
        have hbw5 := hbw.trans (hb5.mono hbw.size)
        have HU := hide hU
        clear hbw hb5 hR hU
        go_wp2
        go_loop [72] (fun i => ∃ k : Nat, k ≤ q ∧ i = .int .i64 k) (fun i => q - (intOf i).toNat)
        case atStart => exact ⟨0, Nat.zero_le _, rfl⟩
        case round =>
          obtain ⟨i, hi, rfl⟩ := hrel
          by_cases hlti : i < q
          · obtain ⟨b4, o4, x, rfl, hb4, hc4, hx4⟩ := HU.out.at_ (k := i) (by rw [up_length, List.length_range]; exact hlti)
            have hx5 := hx4.out
            rw [up_getD, HGR.out i hlti] at hx5
            subst hx5
            clear hx4
            go_wp2
            go_round
            case rel => exact ⟨i + 1, by omega, by go_num⟩
            case measure => simp [intOf] <;> omega
          · obtain rfl : q = i := by omega
            have HOB := hide (Objects_yes X U q c' ku _ _ (upp (againW W)) (up (List.range q)) w5 (by rw [upp_length, (again_ok HWK.out).len]) hR5 HU.out HVK.out.1 (ord_B (ord_range q)))
            have hco := core_trade (again_ok HWK.out)
            rw [again_trade HWK.out] at hco
            rw [HVK.out.2, toN_up, hco] at HOB
            clear hco hR5
            go_wp2_with fail
            refine (HOB.out).mono ?_
            intro e w6 hfr
            obtain ⟨rfl, hb6⟩ : e = .returned (.tuple #[.int .i64 0, .int .i64 4]) ∧ Below w5.heap.size w5 w6 := hfr
            have hb := hbw5.trans (hb6.mono hbw5.size)
            clear hb6 hbw5
            go_wp2_with (go_at_call 21; refine (awake_any _).mono ?_; rintro e w7 ⟨rfl, hb7⟩)
            go_ret
            exact ⟨rfl, hb.trans (hb7.mono hb.size)⟩
end Go.Proofs.Ytilnbiaabhdfgaa
