/-
  The walk of SwapFirst.
-/
import Derived.Test.YtilnbiaabhdfgaaFirstPlain
import Derived.Test.YtilnbiaabhdfgaaFewApi
import Derived.Test.YtilnbiaabhdfgaaContains
namespace Go.Proofs.Ytilnbiaabhdfgaa
open Go.RowKit
set_option linter.unusedVariables false
set_option linter.unusedSimpArgs false

theorem firstF_getD {L : List (List Int)} {n : Nat} {W : List (List Nat)} (hW : NatsOf L n W) {i : Nat} : (L.getD i []).getD 0 0 = ((firstF W i : Nat) : Int) := by
  rw [← hW.eq, upp_getD, up_getD]; rfl
theorem up_take_snoc (l : List Nat) (x : Nat) : (up (l ++ [x])).map (Value.int .i64) = (up l).map (Value.int .i64) ++ [Value.int .i64 (x : Int)] := by simp [up]

set_option maxRecDepth 100000 in
set_option maxHeartbeats 3200000 in
theorem swapFirst_any (A : Option Addr) (n c : Nat) (L : List (List Int)) (X : Option Addr) (m cm : Nat) (l : List Int) (w : World) (hn : L.length = n) (hlen : n ≤ 9223372036854775807) (hrow : ∀ l ∈ L, l.length ≤ 9223372036854775807) (hA : RowsA w w.heap.size A L)
    (hm : l.length = m) (hmc : m ≤ cm) (hlm : m ≤ 9223372036854775807) (hX : IntsA w w.heap.size X l) :
    Calls Try.prog 17 #[.slice A n c, .slice X m cm] w fun e w' => e = .returned (.bool true) ∧ Below w.heap.size w w' := by
  obtain ⟨q, hq⟩ : ∃ q, (fewL L).length = q := ⟨_, rfl⟩
  obtain ⟨q2, hq2⟩ : ∃ q2, (l.take 7).length = q2 := ⟨_, rfl⟩
  have HFE := hide (few_in (c := c) hn hlen hrow hq hA)
  have HLI := hide (list_in hm hmc hlm hq2 hX)
  have HVA := hide (valid_in (c := c) hn hlen hrow hA)
  cases hv : validB L
  · rw [hv] at HVA
    clear hv hrow hn hA hq hq2 hm hX
    go_enter Try.func17, Try.ntmps17
    have hb := Below.refl w.heap.size w
    go_wp2_with fail
    refine (HVA.out _ hb).mono ?_
    rintro e w1 ⟨rfl, rfl⟩
    go_wp2_with fail
    refine (awake_any _).mono ?_
    rintro e w2 ⟨rfl, hbn⟩
    replace hb := hb.trans (hbn.mono hb.size)
    clear hbn
    go_wp2
    go_ret
    exact ⟨rfl, hb⟩
  · rw [hv] at HVA
    have hqn : q = n := by rw [← hq, few_same hv, hn]
    subst hqn
    obtain ⟨W, hW⟩ : ∃ W, NatsOf L q W := ⟨_, nats_of hv hn⟩
    rw [few_same hv] at HFE
    have h5 := hW.ok.le
    have h1 := hW.ok.pos
    have HOT := hide (okTrade hW)
    have HWN := hide hW
    have HQ := hide hq
    have HQ2 := hide hq2
    have HLN := hide hn
    have HVV := hide hv
    have HA : Hid (RowsA w w.heap.size A (upp W)) := by rw [hW.eq]; exact hA
    have HX := hide hX
    have HM := hide hm
    clear hv hrow hn hA hq hW hq2 hm hX
    go_enter Try.func17, Try.ntmps17
    have hb := Below.refl w.heap.size w
    go_wp2_with fail
    refine (HVA.out _ hb).mono ?_
    rintro e w1 ⟨rfl, rfl⟩
    go_wp2
    go_loopw [5, 22] (fun v i wr => ∃ (k c' : Nat) (Z : Option Addr), k ≤ q ∧ i = .int .i64 k ∧ v = .slice Z k c' ∧ k ≤ c' ∧ wr.ownsRow w.heap.size 3 1 (.slice Z k c') k ((up ((firstL W q).take k)).map (Value.int .i64)) ∧ Below w.heap.size w wr ∧ Hid (∀ i j, i < k → j < k → firstF W i = firstF W j → i = j)) (fun _ i _ => q - (intOf i).toNat)
    case atStart => exact ⟨0, 0, none, Nat.zero_le _, rfl, rfl, Nat.le_refl _, World.ownsRow_nil _ _ _ _, hb, fun i j hi => by omega⟩
    case round =>
      clear hb
      obtain ⟨k, c', Z, hk, rfl, rfl, hkc, hown, hb, hd⟩ := hrel
      have HOW := hide hown
      have hfk : ((firstL W q).take k).length = k := by simp [firstL]; omega
      by_cases hlt : k < q
      · obtain ⟨b3, o3, A3, n3, c3, rfl, hb3, hc3, hx3, hle3, hI3⟩ := (HA.out.next hb).at_ (k := k) (by rw [upp_length, HWN.out.ok.len]; exact hlt)
        rw [upp_getD] at hI3 hx3
        have hri := HWN.out.ok.rows k hlt
        obtain rfl : q = n3 := by have := hx3.out; rw [up_length, hri.len] at this; exact this
        obtain ⟨b4, o4, x4, rfl, hb4, hc4, hx4⟩ := hI3.at_ (k := 0) (by rw [up_length, hri.len]; omega)
        have e4 := hx4.out
        rw [up_getD] at e4
        have e5 : x4 = ((firstF W k : Nat) : Int) := e4.symm
        subst e5
        have HCN := hide (contains_any Z k c' wr.heap.size (up ((firstL W q).take k)) ((firstF W k : Nat) : Int) wr (by rw [up_length]; exact hfk) (by omega) (ints_of_own hown))
        have hmem : firstF W k ∈ (firstL W q).take k ↔ ∃ j, j < k ∧ firstF W j = firstF W k := by
          constructor
          · intro h
            obtain ⟨j, hj, e⟩ := List.getElem_of_mem h
            rw [hfk] at hj
            exact ⟨j, hj, by rw [← e]; simp [firstL]⟩
          · rintro ⟨j, hj, e⟩
            rw [← e]
            have hjl : j < ((firstL W q).take k).length := by rw [hfk]; exact hj
            have : ((firstL W q).take k)[j] = firstF W j := by simp [firstL]
            rw [← this]; exact List.getElem_mem hjl
        have HME := hide hmem
        have HFT := hide (firstL_take (W := W) hlt)
        have HU := hide (up_take_snoc ((firstL W q).take k) (firstF W k))
        have hbo4 : ((0 : Int) : Int) < (q : Int) := by omega
        generalize hgk : firstF W k = g at *
        have HGK := hide hgk
        clear hgk
        have hc4' : wr.cell? ⟨b4, o4, none⟩ = some (.int .i64 g) := hc4
        by_cases hkl : g ∈ (firstL W q).take k
        · rw [decide_eq_true (mem_up.2 hkl)] at HCN
          clear hown hx3 hI3 hri hx4 e4 hmem hkl hc4 hfk
          go_wp2_with fail
          refine (HCN.out).mono ?_
          rintro e w4 ⟨rfl, rfl⟩
          go_wp2_with (go_at_call 21; refine (awake_any _).mono ?_; rintro e w5 ⟨rfl, hb5⟩)
          go_ret
          exact ⟨rfl, hb.trans (hb5.mono hb.size)⟩
        · rw [decide_eq_false (fun h => hkl (mem_up.1 h))] at HCN
          have HKL : Hid (g ∉ (firstL W q).take k) := hkl
          clear hown hx3 hI3 hri hx4 e4 hmem hkl hc4 hfk
          go_wp2_with fail
          refine (HCN.out).mono ?_
          rintro e w4 ⟨rfl, rfl⟩
          go_wp2_with ((at_builtin); refine wpList_app1 (w0 := wr) _ _ 23 3 (.int .i64 0) 8 rfl rfl Try.underlying23 info_int rfl w.heap.size (.slice Z k c') k _ (.int .i64 (g : Int)) rfl rfl rfl ⟨_, rfl⟩ HOW.out rfl (by omega) (by omega) (by have := hb.size; omega) ?_; intro g1 cg w5 hown1 hc1 hc1m hg1 hgl hgrow; have HOW1 := hide hown1; have HG := hide hgrow; clear hown1 hgrow)
          go_roundw
          case rel =>
            refine ⟨k + 1, cg, some ⟨g1, 0, none⟩, by omega, by go_num, rfl, hc1, ?_, hb.grown HG.out hb.size (fun q hq => (own_lt HOW.out q hq).1), fun i j hi hj e => ?_⟩
            · rw [HFT.out, HU.out]; exact HOW1.out
            · by_cases ei : i = k
              · by_cases ej : j = k
                · omega
                · exfalso; subst ei; exact HKL.out (HME.out.2 ⟨j, by omega, by rw [← HGK.out, e]⟩)
              · by_cases ej : j = k
                · exfalso; subst ej; exact HKL.out (HME.out.2 ⟨i, by omega, by rw [← HGK.out, e]⟩)
                · exact hd.out i j (by omega) (by omega) e
          case measure => simp [intOf] <;> omega
      · obtain rfl : q = k := by omega
        have hfull : (firstL W q).take q = firstL W q := List.take_of_length_le (by simp [firstL])
        rw [hfull] at hown
        have hI := ints_of_own hown
        have hft := first_trade HWN.out.ok hd.out
        have HOT2 := hide HOT.out
        rw [hft] at HOT2
        have HFL : Hid ((up (firstL W q)).length = q) := by show _ = _; simp [firstL]
        have HRU : Hid (∀ (w' : World) A' c' (i r : Nat), i < q → r < 3 → RowsA w' w'.heap.size A' L → Calls Try.prog 45 #[.slice A' q c', .int .i64 i, .int .i64 r] w' (FindRes none w')) := fun w' A' c' i r hi hr h => by
          obtain ⟨f, hf, hl⟩ := rules_first HWN.out.ok hd.out hr
          have := okLie HWN.out hi (by omega) hf A' c' w' h
          rwa [hl i hi] at this
        have HFC : Hid (∀ d, Ord d q → chooseN W d = firstL W q) := fun d hd2 => first_choose HWN.out.ok hd.out hd2
        clear hown hfull hft HOW hfk hd
        have hb' := hb
        cases hf : fineB L l
        · have HCH := hide (fewChoose_no (L := L) HQ.out HQ2.out hf)
          rw [few_same HVV.out] at HCH
          clear hf hb'
          go_wp2_with fail
          refine (HFE.out _ hb).mono ?_
          rintro e w51 ⟨A1, c1, rfl, hq1, hR1, hbn⟩
          replace hI := hI.next hbn
          replace hb := hb.trans (hbn.mono hb.size)
          clear hbn
          go_wp2_with fail
          refine (HOT2.out _ _ _ hR1).mono ?_
          rintro e w52 ⟨T2, k2, rfl, hT2, hbn⟩
          replace hI := hI.next hbn
          replace hR1 := hR1.next hbn
          replace hb := hb.trans (hbn.mono hb.size)
          clear hbn
          clear hR1
          go_wp2_with fail
          refine (HFE.out _ hb).mono ?_
          rintro e w53 ⟨A1, c1, rfl, hq1, hR1, hbn⟩
          replace hI := hI.next hbn
          replace hT2 := hT2.next hbn
          replace hb := hb.trans (hbn.mono hb.size)
          clear hbn
          go_wp2_with fail
          refine (HLI.out _ hb).mono ?_
          rintro e w54 ⟨X2, c2, rfl, hq2, hI2, hbn⟩
          replace hI := hI.next hbn
          replace hT2 := hT2.next hbn
          replace hR1 := hR1.next hbn
          replace hb := hb.trans (hbn.mono hb.size)
          clear hbn
          go_wp2_with fail
          refine (HCH.out _ _ _ _ _ hR1 hI2).mono ?_
          rintro e w55 ⟨rfl, hbn⟩
          replace hI := hI.next hbn
          replace hT2 := hT2.next hbn
          replace hR1 := hR1.next hbn
          replace hI2 := hI2.next hbn
          replace hb := hb.trans (hbn.mono hb.size)
          clear hbn
          clear hR1 hI2
          go_wp2_with fail
          refine (equal_any T2 Z q q k2 c' _ _ _ _ w55 HFL.out HFL.out (by omega) hT2 hI).mono ?_
          rintro e w56 ⟨rfl, m56, rfl⟩
          replace hI := hI.keep (w' := w55.drewN m56) fun _ _ => rfl
          replace hT2 := hT2.keep (w' := w55.drewN m56) fun _ _ => rfl
          replace hb := below_drewN hb m56
          replace hI := hI.more (B' := (w55.drewN m56).heap.size) (Nat.le_refl _)
          replace hT2 := hT2.more (B' := (w55.drewN m56).heap.size) (Nat.le_refl _)
          generalize w55.drewN m56 = w56 at *
          simp only [decide_true]
          clear hT2
          clear hI
          go_wp2
          go_loopw [81] (fun s wr => ∃ i : Nat, i ≤ q ∧ s = .int .i64 i ∧ Below w.heap.size w wr) (fun s _ => q - (intOf s).toNat)
          case atStart => exact ⟨0, Nat.zero_le _, rfl, hb⟩
          case round =>
            clear hb
            obtain ⟨i, hi, rfl, hb⟩ := hrel
            by_cases hlt : i < q
            · go_wp2
              go_loopw [84] (fun s wr => ∃ r : Nat, r ≤ 3 ∧ s = .int .i64 r ∧ Below w.heap.size w wr) (fun s _ => 3 - (intOf s).toNat)
              case atStart => exact ⟨0, by omega, rfl, hb⟩
              case round =>
                clear hb
                obtain ⟨r, hr, rfl, hb⟩ := hrel
                by_cases hlr : r < 3
                · have hlr2 : decide ((r : Int) < 3) = true := decide_eq_true (by omega)
                  go_wp2_with fail
                  refine (HFE.out _ hb).mono ?_
                  rintro e w71 ⟨A1, c1, rfl, hq1, hR1, hbn⟩
                  replace hb := hb.trans (hbn.mono hb.size)
                  clear hbn
                  go_wp2_with fail
                  refine (HRU.out _ _ _ i r hlt hlr hR1).mono ?_
                  intro e w72 hfr
                  obtain ⟨O3, k3, rfl, hbn⟩ := find_nil hfr
                  clear hfr
                  replace hR1 := hR1.next hbn
                  replace hb := hb.trans (hbn.mono hb.size)
                  clear hbn
                  clear hR1
                  go_wp2
                  go_roundw
                  case rel => exact ⟨r + 1, by omega, by go_num, hb⟩
                  case measure => simp [intOf] <;> omega
                · obtain rfl : r = 3 := by omega
                  go_wp2
                  go_roundw
                  case rel => exact ⟨i + 1, by omega, by go_num, hb⟩
                  case measure => simp [intOf] <;> omega
            · obtain rfl : q = i := by omega
              go_wp2_with fail
              refine (awake_any _).mono ?_
              rintro e w91 ⟨rfl, hbn⟩
              replace hb := hb.trans (hbn.mono hb.size)
              clear hbn
              go_wp2
              go_ret
              exact ⟨rfl, hb⟩
        · obtain ⟨hv, hol⟩ := fine_parts.1 hf
          obtain ⟨he1, he2⟩ := fine_same hf
          rw [HLN.out] at hol
          obtain ⟨hul, ho⟩ := ord_of hol
          obtain ⟨o, hoo⟩ : ∃ o, o = toN l := ⟨_, rfl⟩
          rw [← hoo] at hul ho
          have hmn : q = q2 := by rw [← HQ2.out, he2, ← hul, up_length, ho.len]
          subst hmn
          have HCH := hide (okChoose HWN.out ho)
          rw [HFC.out o ho, hul, ← he2] at HCH
          clear hf hv hol he1 he2 hul ho hoo hb'
          go_wp2_with fail
          refine (HFE.out _ hb).mono ?_
          rintro e w51 ⟨A1, c1, rfl, hq1, hR1, hbn⟩
          replace hI := hI.next hbn
          replace hb := hb.trans (hbn.mono hb.size)
          clear hbn
          go_wp2_with fail
          refine (HOT2.out _ _ _ hR1).mono ?_
          rintro e w52 ⟨T2, k2, rfl, hT2, hbn⟩
          replace hI := hI.next hbn
          replace hR1 := hR1.next hbn
          replace hb := hb.trans (hbn.mono hb.size)
          clear hbn
          clear hR1
          go_wp2_with fail
          refine (HFE.out _ hb).mono ?_
          rintro e w53 ⟨A1, c1, rfl, hq1, hR1, hbn⟩
          replace hI := hI.next hbn
          replace hT2 := hT2.next hbn
          replace hb := hb.trans (hbn.mono hb.size)
          clear hbn
          go_wp2_with fail
          refine (HLI.out _ hb).mono ?_
          rintro e w54 ⟨X2, c2, rfl, hq2, hI2, hbn⟩
          replace hI := hI.next hbn
          replace hT2 := hT2.next hbn
          replace hR1 := hR1.next hbn
          replace hb := hb.trans (hbn.mono hb.size)
          clear hbn
          go_wp2_with fail
          refine (HCH.out _ _ _ _ _ hR1 hI2).mono ?_
          rintro e w55 ⟨O3, k3, rfl, hO, hbn⟩
          replace hI := hI.next hbn
          replace hT2 := hT2.next hbn
          replace hR1 := hR1.next hbn
          replace hI2 := hI2.next hbn
          replace hb := hb.trans (hbn.mono hb.size)
          clear hbn
          clear hR1 hI2
          go_wp2_with fail
          refine (equal_any T2 Z q q k2 c' _ _ _ _ w55 HFL.out HFL.out (by omega) hT2 hI).mono ?_
          rintro e w56 ⟨rfl, m56, rfl⟩
          replace hI := hI.keep (w' := w55.drewN m56) fun _ _ => rfl
          replace hT2 := hT2.keep (w' := w55.drewN m56) fun _ _ => rfl
          replace hO := hO.keep (w' := w55.drewN m56) fun _ _ => rfl
          replace hb := below_drewN hb m56
          replace hI := hI.more (B' := (w55.drewN m56).heap.size) (Nat.le_refl _)
          replace hT2 := hT2.more (B' := (w55.drewN m56).heap.size) (Nat.le_refl _)
          replace hO := hO.more (B' := (w55.drewN m56).heap.size) (Nat.le_refl _)
          generalize w55.drewN m56 = w56 at *
          simp only [decide_true]
          clear hT2
          go_wp2_with fail
          refine (equal_any O3 Z q q k3 c' _ _ _ _ w56 HFL.out HFL.out (by omega) hO hI).mono ?_
          rintro e w57 ⟨rfl, m57, rfl⟩
          replace hI := hI.keep (w' := w56.drewN m57) fun _ _ => rfl
          replace hO := hO.keep (w' := w56.drewN m57) fun _ _ => rfl
          replace hb := below_drewN hb m57
          replace hI := hI.more (B' := (w56.drewN m57).heap.size) (Nat.le_refl _)
          replace hO := hO.more (B' := (w56.drewN m57).heap.size) (Nat.le_refl _)
          generalize w56.drewN m57 = w57 at *
          simp only [decide_true]
          clear hO
          clear hI
          go_wp2
          go_loopw [81] (fun s wr => ∃ i : Nat, i ≤ q ∧ s = .int .i64 i ∧ Below w.heap.size w wr) (fun s _ => q - (intOf s).toNat)
          case atStart => exact ⟨0, Nat.zero_le _, rfl, hb⟩
          case round =>
            clear hb
            obtain ⟨i, hi, rfl, hb⟩ := hrel
            by_cases hlt : i < q
            · go_wp2
              go_loopw [84] (fun s wr => ∃ r : Nat, r ≤ 3 ∧ s = .int .i64 r ∧ Below w.heap.size w wr) (fun s _ => 3 - (intOf s).toNat)
              case atStart => exact ⟨0, by omega, rfl, hb⟩
              case round =>
                clear hb
                obtain ⟨r, hr, rfl, hb⟩ := hrel
                by_cases hlr : r < 3
                · have hlr2 : decide ((r : Int) < 3) = true := decide_eq_true (by omega)
                  go_wp2_with fail
                  refine (HFE.out _ hb).mono ?_
                  rintro e w71 ⟨A1, c1, rfl, hq1, hR1, hbn⟩
                  replace hb := hb.trans (hbn.mono hb.size)
                  clear hbn
                  go_wp2_with fail
                  refine (HRU.out _ _ _ i r hlt hlr hR1).mono ?_
                  intro e w72 hfr
                  obtain ⟨O3, k3, rfl, hbn⟩ := find_nil hfr
                  clear hfr
                  replace hR1 := hR1.next hbn
                  replace hb := hb.trans (hbn.mono hb.size)
                  clear hbn
                  clear hR1
                  go_wp2
                  go_roundw
                  case rel => exact ⟨r + 1, by omega, by go_num, hb⟩
                  case measure => simp [intOf] <;> omega
                · obtain rfl : r = 3 := by omega
                  go_wp2
                  go_roundw
                  case rel => exact ⟨i + 1, by omega, by go_num, hb⟩
                  case measure => simp [intOf] <;> omega
            · obtain rfl : q = i := by omega
              go_wp2_with fail
              refine (awake_any _).mono ?_
              rintro e w91 ⟨rfl, hbn⟩
              replace hb := hb.trans (hbn.mono hb.size)
              clear hbn
              go_wp2
              go_ret
              exact ⟨rfl, hb⟩
end Go.Proofs.Ytilnbiaabhdfgaa
