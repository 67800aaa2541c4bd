/-
  The walk of TopOwners.
-/
import Derived.Test.YtgognkofnegobaaTurnsS
import Derived.Test.YtgognkofnegobaaOwnersP
import Derived.Test.YtgognkofnegobaaTurnsM
import Derived.Test.YtgognkofnegobaaTopW
import Derived.Test.YtgognkofnegobaaTradesTop
import Derived.Test.YtgognkofnegobaaEqual
import Derived.Deep.RegionHeld3
import Derived.Deep.DeepCutAuto
import Derived.BigQuiet
namespace Go.Proofs.Ytgognkofnegobaa
open Go.RowKit
set_option linter.unusedVariables false
set_option linter.unusedSimpArgs false

theorem idx_q {A : Option Addr} {n c B : Nat} {l : List Int} {v : Int} {w w0 : World} (hn : l.length = n) (hlen : n ≤ 9223372036854775807) (hA : IntsA w0 B A l) (hB : B ≤ w0.heap.size) (hw : Below w0.heap.size w0 w) (m : Nat) :
    Calls Try.prog 19 #[.slice A n c, .int .i64 v] (w.drewN m) fun e w'' => e = .returned (.int .i64 (idx l v)) ∧ ∃ k, w'' = w.drewN k :=
  (index_any A n c B l v (w.drewN m) hn hlen ((hA.below (hw.mono hB)).keep fun _ _ => rfl)).mono fun e w'' h => ⟨h.1, m, h.2.symm⟩
/-- The plan's memory in the end. -/
theorem PlM.plan {w : World} {B n : Nat} {HA : Option Addr} {hc : Nat} {H : List (List Nat)} {X : Option Addr} {c : Nat} {PX : Option Addr} {cp : Nat} {vs ps : List Value} {S : List (List Int)} {S' : List (List Nat)}
    (h : PlM w B n HA hc H X n c PX n cp vs ps S) (hps : ps = List.replicate n (.int .i64 1)) (hS : S = upp S') (hH : SqOk H n) (hS' : SqOk S' n) : PlanA w w.heap.size HA X PX n H S' := by
  have hB := lt_of_block h.pb
  subst hS
  have e : ps = (up (List.replicate n 1)).map (Value.int .i64) := by rw [hps]; simp [up]
  exact ⟨h.h.more (by omega), rows_of h.rv h.own, ints_of_own (by rw [← e]; exact h.pown), hH, hS'⟩
theorem upp_snoc (S : List (List Nat)) (l : List Nat) : upp S ++ [up l] = upp (S ++ [l]) := by simp [upp]
theorem up_snocV (l : List Nat) (x : Nat) : (up l).map (Value.int .i64) ++ [.int .i64 (x : Nat)] = (up (l ++ [x])).map (Value.int .i64) := by simp [up]
/-- A list that was just written down. -/
theorem own_one {w : World} {x : Value} {t : TypeId} (b : Nat) (hb : b = w.heap.size) : (w.alloc (.cells #[x] t)).ownsRow b t 1 (.slice (some ⟨b, 0, none⟩) 1 1) 1 [x] := by
  subst hb
  exact ⟨rfl, .inr ⟨w.heap.size, 1, #[x], rfl, Nat.le_refl _, alloc_new _ _ _ rfl, Nat.le_refl _, by decide, rfl, rfl⟩⟩

set_option maxRecDepth 100000 in
set_option maxHeartbeats 6400000 in
theorem topOwners_any (A : Option Addr) (n c : Nat) (L : List (List Int)) (A2 : Option Addr) (n2 c2 : Nat) (L2 : List (List Int)) (w : World) (hn : L.length = n) (hlen : n ≤ 9223372036854775807) (hrow : ∀ l ∈ L, l.length ≤ 9223372036854775807) (hA : RowsA w w.heap.size A L)
    (hn2 : L2.length = n2) (hlen2 : n2 ≤ 9223372036854775807) (hrow2 : ∀ l ∈ L2, l.length ≤ 9223372036854775807) (hA2 : RowsA w w.heap.size A2 L2) :
    Calls Try.prog 4 #[.slice A n c, .slice A2 n2 c2] w fun e w' => e = .returned (.bool true) ∧ Below w.heap.size w w' := by
  have HVA := hide (refValid_any A n c w.heap.size L w hn hlen hrow hA)
  have HTR := hide trades_any
  cases hv : validB L
  · rw [hv] at HVA
    clear hrow hA hn hv hn2 hrow2 hA2
    go_enter Try.func4, Try.ntmps4
    go_wp2_with (first
      | (go_at_call 13; refine (HVA.out).mono ?_; rintro e w1 ⟨rfl, rfl⟩)
      | (go_at_call 14; refine (HTR.out _).mono ?_; rintro e w1 ⟨rfl, hb1⟩))
    go_ret
    exact ⟨rfl, hb1⟩
  rw [hv] at HVA
  by_cases h4 : n ≤ 4
  case neg =>
    have hd4 : decide ((4 : Int) < (n : Int)) = true := decide_eq_true (by omega)
    clear hrow hA hn hv hn2 hrow2 hA2
    go_enter Try.func4, Try.ntmps4
    go_wp2_with (first
      | (go_at_call 13; refine (HVA.out).mono ?_; rintro e w1 ⟨rfl, rfl⟩)
      | (go_at_call 14; refine (HTR.out _).mono ?_; rintro e w1 ⟨rfl, hb1⟩))
    go_ret
    exact ⟨rfl, hb1⟩
  have hd4 : decide ((4 : Int) < (n : Int)) = false := decide_eq_false (by omega)
  obtain ⟨hu, hok⟩ := valid_ok hv
  rw [hn] at hok
  have hpos : 1 ≤ n := hok.pos
  have HWI := hide (fun w' (hb : Below w.heap.size w w') => wish_any A n c w.heap.size L w' hn hlen hrow hv (hA.below hb))
  have HTD : Hid (∀ w' A' c', RowsA w' w'.heap.size A' L → Calls Try.prog 18 #[.slice A' n c'] w' fun e w'' => ∃ O co, e = .returned (.tuple #[.slice O n co, .int .i64 0]) ∧ IntsA w'' w''.heap.size O (up (tradeN (toNN L))) ∧ Below w'.heap.size w' w'') := fun w' A' c' h => Trade_yes A' n c' w'.heap.size L w' hn h hv
  have HST : Hid (∀ w' HA' SA' PA' hc' sc' pc' S, OwnS S n n → PlanA w' w'.heap.size HA' SA' PA' n (toNN L) S → Calls Try.prog 17 #[.agg #[.slice HA' n hc', .slice SA' n sc', .slice PA' n pc']] w' fun e w'' => ∃ X' j c' FL, e = .returned (.tuple #[.slice X' j c', .int .i64 0]) ∧ FL.length = j ∧ j ≤ 1000 ∧ (∀ q ∈ FL, OwnQ (toNN L) n (tradeN (toNN L)) q) ∧ RowsA w'' w''.heap.size X' FL ∧ Below w'.heap.size w' w'') := fun w' HA' SA' PA' hc' sc' pc' S hS hP => by
    refine (Stable_any HA' SA' PA' n hc' sc' pc' (toNN L) S w' h4 hpos hP).mono ?_
    rintro e w3 ⟨X', j, c', rfl, h1, _, h3, h5⟩
    have h6 : j ≤ 1000 := by
      rw [← h1]
      exact Nat.le_trans (Nat.le_trans (List.length_filter_le _ _) (enumM_len h4 n [])) (Nat.le_trans (Nat.pow_le_pow_right (by decide) h4) (by decide))
    exact ⟨X', j, c', _, rfl, h1, h6, owners_q hok hS, h3, h5⟩
  have HPL : Hid (∀ (w' : World) (B : Nat) HA' hc' X' c' PX' cp' vs ps S, OwnS S n n → PlM w' B n HA' hc' (toNN L) X' n c' PX' n cp' vs ps (upp S) → ps = List.replicate n (.int .i64 1) → PlanA w' w'.heap.size HA' X' PX' n (toNN L) S) := fun w' B HA' hc' X' c' PX' cp' vs ps S hS h hps =>
    h.plan hps rfl ⟨hok.len, hok.rows⟩ hS.sq
  have HUP := hide hu
  have HOR : Hid (∀ i, i < n → Ord ((toNN L).getD i []) n) := hok.rows
  have HLW : Hid ((toNN L).length = n) := hok.len
  have HTL := hide (trade_lt hok)
  have HA : Hid (RowsA w w.heap.size A (upp (toNN L))) := by show RowsA _ _ _ _; rw [hu]; exact hA
  have HA2 := hide hA2
  have HN2 := hide hn2
  have HR2 := hide hrow2
  generalize tradeN (toNN L) = tr at *
  generalize toNN L = W at *
  clear hrow hA hn hv hu hok hn2 hrow2 hA2
  go_enter Try.func4, Try.ntmps4
  go_upto_region 3 with (go_at_call 13; refine (HVA.out).mono ?_; rintro e w1 ⟨rfl, rfl⟩)
  clear HVA
  go_wp2_with fail
  refine (HWI.out _ (Below.refl _ _)).mono ?_
  rintro e w1 ⟨A1, c1, rfl, hc1, hR1, hb1⟩
  have HB1 := hide hb1
  have HR1 := hide hR1
  clear hb1 hR1
  go_upto_region 4 with (fail)
  have HPM0 : Hid (PlM (w1.alloc (.cells #[.slice A1 n c1, .slice none 0 0, .slice none 0 0] 33)) w1.heap.size n A1 c1 W none 0 0 none 0 0 [] [] (upp [])) :=
    ⟨alloc_new _ _ _ rfl, (by rw [HUP.out]; exact HR1.out.below ((Below.refl _ _).alloc (Nat.le_refl _) _)), World.ownsRow_nil _ _ _ _, World.ownsRow_nil _ _ _ _, fun k hk => by simp [Value.ownBlock] at hk, RowVals.nil_, RowVals.nil_, rfl, Nat.le_refl _, Nat.le_refl _⟩
  have HB2 : Hid (Below w.heap.size w (w1.alloc (.cells #[.slice A1 n c1, .slice none 0 0, .slice none 0 0] 33))) := HB1.out.alloc HB1.out.size _
  have hwl : w.heap.size ≤ w1.heap.size := HB1.out.size
  generalize hw2 : w1.alloc (.cells #[.slice A1 n c1, .slice none 0 0, .slice none 0 0] 33) = w2 at *
  generalize hB : w1.heap.size = B at *
  clear hw2 HB1 HR1 hB
  go_wp2
  go_loopw [34] (fun i wr => ∃ (k : Nat) (X1 : Option Addr) (cx : Nat) (P1 : Option Addr) (cp : Nat) (vs ps : List Value) (S : List (List Nat)), k ≤ n ∧ i = .int .i64 (k : Nat) ∧ Hid (PlM wr B n A1 c1 W X1 k cx P1 k cp vs ps (upp S)) ∧ Hid (OwnS S n k) ∧ Hid (ps = List.replicate k (.int .i64 1)) ∧ Hid (Below w.heap.size w wr)) (fun i _ => n - (intOf i).toNat)
  case atStart => exact ⟨0, none, 0, none, 0, [], [], [], Nat.zero_le _, rfl, HPM0, hide (OwnS.nil_ n), hide rfl, HB2⟩
  case round =>
    obtain ⟨k, X1, cx, P1, cp, vs, ps, S, hk, rfl, HPM, HOS, HPS, HBR⟩ := hrel
    clear HPM0 HB2
    by_cases hlt : k < n
    · obtain ⟨wo, rfl⟩ : ∃ wo : World, wo = wr := ⟨_, rfl⟩
      have hlk : (k : Int) < (n : Int) := by omega
      have hBr := lt_of_block HPM.out.pb
      go_upto_region 8 with (fail)
      have HLO : Hid ((wo.alloc (.cells #[.int .i64 (k : Nat)] 3)).ownsRow wo.heap.size 3 1 (.slice (some ⟨wo.heap.size, 0, none⟩) 1 1) 1 ((up [k]).map (Value.int .i64))) := own_one _ rfl
      have HLB : Hid (Below wo.heap.size wo (wo.alloc (.cells #[.int .i64 (k : Nat)] 3))) := (Below.refl _ _).alloc (Nat.le_refl _) _
      have HL1 := hide (LSt.one hlt)
      generalize wo.alloc (.cells #[.int .i64 (k : Nat)] 3) = wa at *
      go_upto_if 42 with (fail)
      go_cut [7, 34] from 34 to 96 (fun v7 i wx => ∃ (l : List Nat) (Y : Option Addr) (q cl : Nat), i = .int .i64 (k : Nat) ∧ v7 = .slice Y q cl ∧ q ≤ n ∧ q ≤ cl ∧ Hid (l.length = q) ∧ Hid (LSt l n k) ∧ Hid (wx.ownsRow wo.heap.size 3 1 (.slice Y q cl) q ((up l).map (Value.int .i64))) ∧ Hid (Below wo.heap.size wo wx))
      case first =>
        by_cases hin : k < n2
        · have hi2 : (k : Int) < (n2 : Int) := by omega
          have hd2 : decide ((k : Int) < (n2 : Int)) = true := decide_eq_true hi2
          obtain ⟨b2, o2, A', n', c', rfl, hb2, hcc2, hx2, hle2, hI2⟩ := (HA2.out.below (HBR.out.trans (HLB.out.mono HBR.out.size))).at_ (k := k) (by rw [HN2.out]; exact hin)
          have hn' : n' ≤ 9223372036854775807 := by rw [← hx2.out]; exact HR2.out _ (getD_mem (by rw [HN2.out]; exact hin))
          have HIL : Hid (∀ wx, Below wo.heap.size wo wx → IntsA wx w.heap.size A' (L2.getD k [])) := fun wx hb => by
            obtain ⟨b3, o3, A3, n3, c3, e3, hb3, hc3, hx3, hle3, hI3⟩ := (HA2.out.below (HBR.out.trans (hb.mono HBR.out.size))).at_ (k := k) (by rw [HN2.out]; exact hin)
            injection e3 with e3; injection e3 with e4 e5
            subst e4; subst e5
            have h10 : wx.cell? ⟨b2, o2 + k, none⟩ = wa.cell? ⟨b2, o2 + k, none⟩ := ((HBR.out.trans (hb.mono HBR.out.size)).cell (p := ⟨b2, o2 + k, none⟩) hb2).trans ((HBR.out.trans (HLB.out.mono HBR.out.size)).cell (p := ⟨b2, o2 + k, none⟩) hb2).symm
            rw [h10, hcc2] at hc3
            injection hc3 with hc3
            injection hc3 with e6 e7 e8
            subst e6
            exact hI3
          have HX2 := hide hx2.out
          clear hx2 hI2 hle2
          simp only [show decide (k < n2) = true from decide_eq_true hin]
          go_wp2
          go_loopw [7, 48] (fun v7 i wx => ∃ (j : Nat) (l : List Nat) (Y : Option Addr) (q cl : Nat), j ≤ n' ∧ i = .int .i64 (j : Nat) ∧ v7 = .slice Y q cl ∧ q ≤ n ∧ q ≤ cl ∧ Hid (l.length = q) ∧ Hid (LSt l n k) ∧ Hid (wx.ownsRow wo.heap.size 3 1 (.slice Y q cl) q ((up l).map (Value.int .i64))) ∧ Hid (Below wo.heap.size wo wx)) (fun _ i _ => n' - (intOf i).toNat)
          case atStart => exact ⟨0, [k], _, _, _, Nat.zero_le _, rfl, rfl, by omega, Nat.le_refl _, hide rfl, HL1, HLO, HLB⟩
          case round =>
            clear HL1 HLO HLB hcc2 hd2
            obtain ⟨j, l, Y, q, cl, hj, rfl, rfl, hqn, hqc, HQ, HL1, HLO, HLB⟩ := hrel
            by_cases hjn : j < n'
            · have hjn' : (j : Int) < (n' : Int) := by omega
              obtain ⟨b4, o4, x, rfl, hb4, hc4, hx4⟩ := (HIL.out _ HLB.out).at_ (k := j) (by rw [HX2.out]; exact hjn)
              have HCO := hide (fun v => contains_any Y q cl wr.heap.size (up l) v wr (by rw [up_length, HQ.out]) (by omega) (ints_of_own HLO.out))
              clear hx4
              by_cases h0 : 0 ≤ x
              · obtain ⟨y, rfl⟩ : ∃ y : Nat, x = (y : Int) := ⟨x.toNat, by omega⟩
                have hd0 : decide ((0 : Int) ≤ (y : Int)) = true := decide_eq_true h0
                by_cases hyn : y < n
                · have hd1 : decide ((y : Int) < (n : Int)) = true := decide_eq_true (by omega)
                  have HC1 := hide (HCO.out (y : Int))
                  by_cases hm : y ∈ l
                  · rw [decide_eq_true (mem_up.2 hm)] at HC1
                    clear hm
                    go_wp2_with (go_at_call 16; refine (HC1.out).mono ?_; rintro e w3 ⟨rfl, rfl⟩)
                    go_roundw
                    case rel => exact ⟨j + 1, l, Y, q, cl, by omega, by go_num, rfl, hqn, hqc, HQ, HL1, HLO, HLB⟩
                    case measure => simp [intOf]; omega
                  · rw [decide_eq_false (fun h => hm (mem_up.1 h))] at HC1
                    have HS1 := hide (HL1.out.snoc hyn hm)
                    have hroom : q < n := by rw [← HQ.out]; exact HL1.out.room hyn hm
                    have hbw := HLB.out.size
                    clear hm
                    go_wp2_with (first
                      | (go_at_call 16; refine (HC1.out).mono ?_; rintro e w3 ⟨rfl, rfl⟩)
                      | (at_builtin; refine wpList_app1 (w0 := wr) _ _ 24 3 (.int .i64 0) 8 rfl rfl Try.underlying24 info_int rfl wo.heap.size (.slice Y q cl) q _ (.int .i64 (y : Nat)) rfl rfl rfl ⟨_, rfl⟩ HLO.out rfl (by omega) (by omega) (by omega) ?_; intro g cg w3 hown hd1' hd2' hg1 hgl hgrow; have HOW := hide hown; have HGR := hide hgrow; clear hown hgrow hg1))
                    go_roundw
                    case rel =>
                      exact ⟨j + 1, l ++ [y], _, q + 1, cg, by omega, by go_num, rfl, by omega, hd1', hide (by simp [HQ.out]), HS1, hide (by rw [← up_snocV]; exact HOW.out), hide (HLB.out.grown HGR.out hbw (fun g' hg => (own_lt HLO.out g' hg).1))⟩
                    case measure => simp [intOf]; omega
                · have hd1 : decide ((y : Int) < (n : Int)) = false := decide_eq_false (by omega)
                  go_wp2
                  go_roundw
                  case rel => exact ⟨j + 1, l, Y, q, cl, by omega, by go_num, rfl, hqn, hqc, HQ, HL1, HLO, HLB⟩
                  case measure => simp [intOf]; omega
              · have hd0 : decide ((0 : Int) ≤ x) = false := decide_eq_false h0
                go_wp2
                go_roundw
                case rel => exact ⟨j + 1, l, Y, q, cl, by omega, by go_num, rfl, hqn, hqc, HQ, HL1, HLO, HLB⟩
                case measure => simp [intOf]; omega
            · obtain rfl : n' = j := by omega
              go_wp2
              go_meet
              exact ⟨l, Y, q, cl, rfl, rfl, hqn, hqc, HQ, HL1, HLO, HLB⟩
        · have hd2 : decide ((k : Int) < (n2 : Int)) = false := decide_eq_false (by omega)
          simp only [show decide (k < n2) = false from decide_eq_false hin]
          go_wp2
          go_meet
          exact ⟨[k], _, _, _, rfl, rfl, by omega, Nat.le_refl _, hide rfl, HL1, HLO, HLB⟩
      case rest =>
        clear HLO HLB HL1
        obtain ⟨l, Y, q, cl, rfl, rfl, hqn, hqc, HQ, HL1, HLO, HLB⟩ := hcut
        go_wp2
        go_loopw [7, 73] (fun v7 i wx => ∃ (j : Nat) (l : List Nat) (Y : Option Addr) (q cl : Nat), j ≤ n ∧ i = .int .i64 (j : Nat) ∧ v7 = .slice Y q cl ∧ q ≤ n ∧ q ≤ cl ∧ Hid (∀ x, x < j → x ∈ l) ∧ Hid (l.length = q) ∧ Hid (LSt l n k) ∧ Hid (wx.ownsRow wo.heap.size 3 1 (.slice Y q cl) q ((up l).map (Value.int .i64))) ∧ Hid (Below wo.heap.size wo wx)) (fun _ i _ => n - (intOf i).toNat)
        case atStart => exact ⟨0, l, Y, q, cl, Nat.zero_le _, rfl, rfl, hqn, hqc, hide (fun x hx => absurd hx (by omega)), HQ, HL1, HLO, HLB⟩
        case round =>
          clear HQ HL1 HLO HLB hqn hqc
          obtain ⟨j, l, Y, q, cl, hj, rfl, rfl, hqn, hqc, HAL, HQ, HL1, HLO, HLB⟩ := hrel
          by_cases hjn : j < n
          · have hjn' : (j : Int) < (n : Int) := by omega
            have HC1 := hide (contains_any Y q cl wr.heap.size (up l) (j : Int) wr (by rw [up_length, HQ.out]) (by omega) (ints_of_own HLO.out))
            by_cases hm : j ∈ l
            · rw [decide_eq_true (mem_up.2 hm)] at HC1
              have HAN : Hid (∀ x, x < j + 1 → x ∈ l) := fun x hx => by
                by_cases e : x = j
                · rw [e]; exact hm
                · exact HAL.out x (by omega)
              clear hm
              go_wp2_with (go_at_call 16; refine (HC1.out).mono ?_; rintro e w3 ⟨rfl, rfl⟩)
              go_roundw
              case rel => exact ⟨j + 1, l, Y, q, cl, by omega, by go_num, rfl, hqn, hqc, HAN, HQ, HL1, HLO, HLB⟩
              case measure => simp [intOf]; omega
            · rw [decide_eq_false (fun h => hm (mem_up.1 h))] at HC1
              have HS1 := hide (HL1.out.snoc hjn hm)
              have hroom : q < n := by rw [← HQ.out]; exact HL1.out.room hjn hm
              have HAN : Hid (∀ x, x < j + 1 → x ∈ l ++ [j]) := fun x hx => by
                by_cases e : x = j
                · rw [e]; simp
                · exact List.mem_append_left _ (HAL.out x (by omega))
              have hbw := HLB.out.size
              clear hm
              go_wp2_with (first
                | (go_at_call 16; refine (HC1.out).mono ?_; rintro e w3 ⟨rfl, rfl⟩)
                | (at_builtin; refine wpList_app1 (w0 := wr) _ _ 24 3 (.int .i64 0) 8 rfl rfl Try.underlying24 info_int rfl wo.heap.size (.slice Y q cl) q _ (.int .i64 (j : Nat)) rfl rfl rfl ⟨_, rfl⟩ HLO.out rfl (by omega) (by omega) (by omega) ?_; intro g cg w3 hown hd1' hd2' hg1 hgl hgrow; have HOW := hide hown; have HGR := hide hgrow; clear hown hgrow hg1))
              go_roundw
              case rel =>
                refine ⟨j + 1, l ++ [j], _, q + 1, cg, by omega, by go_num, rfl, by omega, hd1', HAN, hide (by simp [HQ.out]), HS1, hide (by rw [← up_snocV]; exact HOW.out), hide (HLB.out.grown HGR.out hbw (fun g' hg => (own_lt HLO.out g' hg).1))⟩
              case measure => simp [intOf]; omega
          · obtain rfl : j = n := by omega
            have hOL := HL1.out.full HAL.out
            obtain rfl : q = j := by rw [← HQ.out, hOL.len]
            have HON := hide (HOS.out.snoc hOL HL1.out.first)
            have HPM3 := hide (HPM.out.next HLB.out)
            have hbw := HLB.out.size
            have hM := HPM3.out
            have p1 := blk_cell hM.pb 1
            have f1 := blk_free hM.pb 1
            have hXO := hide hM.own
            have hBl := lt_of_block hM.pb
            simp only [List.getElem?_toArray, List.getElem?_cons_zero, List.getElem?_cons_succ] at p1
            have HLL : Hid ((up l).length = q) := by show _ = _; rw [up_length, HQ.out]
            clear hM HAL HL1 hOL HQ
            go_upto_region 22 with (at_builtin; refine wpList_app1 (w0 := wr) _ _ 22 24 (.slice none 0 0) 24 rfl rfl Try.underlying22 info_ints rfl (B + 1) (.slice X1 k cx) k vs (.slice Y q cl) rfl rfl rfl ⟨_, rfl⟩ hXO.out rfl (by omega) (by omega) (by omega) ?_; intro g cg w3 hown hd1' hd2' hg1 hgl hgrow; have HMF := hide (HPM3.out.pushS HLL.out hqc (ints_of_own HLO.out) (fun k1 hk1 e1 => by have h1 := (own_lt HLO.out k1 hk1).1; have h2 := (own_lt HPM.out.own k1 e1).2; omega) (fun k1 hk1 e1 => by have h1 := (own_lt HLO.out k1 hk1).1; have h2 := (own_lt HPM.out.pown k1 e1).2; omega) hown hd1' hg1 hgrow); have c3 : w3.cell? ⟨B, 1, none⟩ = some (.slice X1 k cx) := (by rw [World.cell?_of_block (w := wr) (a := ⟨B, 1, none⟩) (hgrow.block B hBl (fun e => by have := (own_lt hXO.out _ e.symm).1; omega))]; exact p1); have f3 : w3.frozen? ⟨B, 1, none⟩ = false := (blk_free (((hgrow.block B hBl (fun e => by have := (own_lt hXO.out _ e.symm).1; omega))).trans HPM3.out.pb) 1); have HB3 := hide ((((HBR.out.trans (HLB.out.mono HBR.out.size))).grown hgrow (by have := HBR.out.size; omega) (fun q hq => by have := (own_lt hXO.out q hq).1; omega)).setCell (p := ⟨B, 1, none⟩) (by show w.heap.size ≤ B; omega) (.slice (some ⟨g, 0, none⟩) (k + 1) cg)); clear hown hgrow hg1 p1 f1)
            generalize w3.setCell _ _ = w4 at *
            clear hXO hBl c3 f3
            have hM := HMF.out
            have p2 := blk_cell hM.pb 2
            have f2 := blk_free hM.pb 2
            have hPO := hide hM.pown
            have hBl := lt_of_block hM.pb
            simp only [List.getElem?_toArray, List.getElem?_cons_zero, List.getElem?_cons_succ] at p2
            clear hM
            go_wp2_with (at_builtin; refine wpList_app1 (w0 := w4) _ _ 24 3 (.int .i64 0) 8 rfl rfl Try.underlying24 info_int rfl (B + 1) (.slice P1 k cp) k ps (.int .i64 1) rfl rfl rfl ⟨_, rfl⟩ hPO.out rfl (by omega) (by omega) (by omega) ?_; intro g cg w3 hown hd1' hd2' hg1 hgl hgrow; have HMG := hide (HMF.out.pushP hown hd1' hg1 hgrow); have c3 : w3.cell? ⟨B, 2, none⟩ = some (.slice P1 k cp) := (by rw [World.cell?_of_block (w := w4) (a := ⟨B, 2, none⟩) (hgrow.block B hBl (fun e => by have := (own_lt hPO.out _ e.symm).1; omega))]; exact p2); have f3 : w3.frozen? ⟨B, 2, none⟩ = false := (blk_free (((hgrow.block B hBl (fun e => by have := (own_lt hPO.out _ e.symm).1; omega))).trans HMF.out.pb) 2); have HB5 := hide ((HB3.out.grown hgrow (by have := HB3.out.size; omega) (fun q hq => by have := (own_lt hPO.out q hq).1; omega)).setCell (p := ⟨B, 2, none⟩) (by show w.heap.size ≤ B; omega) (.slice (some ⟨g, 0, none⟩) (k + 1) cg)); clear hown hgrow hg1 p2 f2)
            go_roundw
            case rel => exact ⟨k + 1, _, _, _, _, _, _, _, by omega, by go_num, (by have := HMG.out; rw [upp_snoc] at this; exact this), HON, hide (by rw [HPS.out, List.replicate_succ']), HB5⟩
            case measure => simp [intOf]; omega
    · obtain rfl : n = k := by omega
      have q0 := blk_cell HPM.out.pb 0
      have q1 := blk_cell HPM.out.pb 1
      have q2 := blk_cell HPM.out.pb 2
      simp only [List.getElem?_toArray, List.getElem?_cons_zero, List.getElem?_cons_succ] at q0 q1 q2
      have hBl := lt_of_block HPM.out.pb
      have HPA := hide (HPL.out _ _ _ _ _ _ _ _ _ _ _ HOS.out HPM.out HPS.out)
      go_wp2_with fail
      refine (HST.out _ _ _ _ _ _ _ _ HOS.out HPA.out).mono ?_
      rintro e w3 ⟨Y, jn, cy, FL, rfl, hfl, hjn9, hfq, hY, hb3⟩
      have HB3 := hide (HBR.out.trans (hb3.mono HBR.out.size))
      have HFL := hide hfl
      have HFQ := hide hfq
      have hY' := hY
      clear hb3 q0 q1 q2 HPM HPA HBR hY hfl hfq
      go_wp2_with fail
      refine (HWI.out _ HB3.out).mono ?_
      rintro e w4 ⟨A4, c4, rfl, hc4, hR4, hb4⟩
      have hY4 := hY'.next hb4
      have HB4 := hide (HB3.out.trans (hb4.mono HB3.out.size))
      clear hb4 hY' HB3
      go_wp2_with fail
      refine (HTD.out _ _ _ hR4).mono ?_
      rintro e w6 ⟨O6, c6, rfl, hI6, hb6⟩
      have HY6 := hide (hY4.next hb6)
      have HI6 := hide hI6
      have HB6 := hide (HB4.out.trans (hb6.mono HB4.out.size))
      have HA6 := hide (HA.out.below HB6.out)
      clear hb6 hY4 hR4 hI6 HB4 HA
      have hnn : ((n : Int) != (n : Int)) = false := by simp
      go_wp2
      go_loopw [123] (fun i wx => ∃ a : Nat, a ≤ jn ∧ i = .int .i64 (a : Nat) ∧ Hid (Below w6.heap.size w6 wx)) (fun i _ => jn - (intOf i).toNat)
      case atStart => exact ⟨0, Nat.zero_le _, rfl, hide (Below.refl _ _)⟩
      case round =>
        obtain ⟨a, ha, rfl, HBX⟩ := hrel
        by_cases haj : a < jn
        · have haj' : (a : Int) < (jn : Int) := by omega
          obtain ⟨by1, oy1, A7, n7, c7, rfl, hby, hcy, hxy, hley, hI7⟩ := (HY6.out.below HBX.out).at_ (k := a) (by rw [HFL.out]; exact haj)
          obtain ⟨m, hmq⟩ : ∃ m, FL.getD a [] = m := ⟨_, rfl⟩
          have hOQ := HFQ.out _ (getD_mem (d := []) (by rw [HFL.out]; exact haj))
          rw [hmq] at hxy hI7 hOQ
          obtain rfl : n = n7 := by rw [← hOQ.len]; exact hxy.out
          have HOQ := hide hOQ
          have HI7 := hide hI7
          clear hmq hOQ hI7 hxy
          go_wp2
          obtain ⟨wz, rfl⟩ : ∃ wz : World, wz = wr := ⟨_, rfl⟩
          go_loopw [17, 129] (fun b i wx => ∃ (h : Nat) (y : Bool), h ≤ n ∧ i = .int .i64 (h : Nat) ∧ b = .bool y ∧ Hid (y = true → ∀ x, x < h → place (W.getD x []) (m.getD x 0).toNat ≤ place (W.getD x []) (tr.getD x 0)) ∧ Hid (IntsA wx w6.heap.size A7 m) ∧ Hid (Below w6.heap.size w6 wx)) (fun _ i _ => n - (intOf i).toNat)
          case atStart => exact ⟨0, true, Nat.zero_le _, rfl, rfl, hide (fun _ x hx => absurd hx (by omega)), HI7, HBX⟩
          case round =>
            clear HBX HI7
            obtain ⟨h, y, hh, rfl, rfl, HY, HI7, HBW⟩ := hrel
            by_cases hhn : h < n
            · have hhn' : (h : Int) < (n : Int) := by omega
              obtain ⟨s, hsn, hqs, hps⟩ := HOQ.out.own h hhn
              obtain ⟨b5, o5, x5, rfl, hb5, hc5, hx5⟩ := HI7.out.at_ (k := h) (by rw [HOQ.out.len]; exact hhn)
              obtain rfl : x5 = (s : Int) := hx5.out.symm.trans hqs
              have hs0 : decide ((s : Int) < 0) = false := decide_eq_false (by omega)
              have HRW := HA6.out.at_ (k := h) (by rw [upp_length, HLW.out]; exact hhn)
              obtain ⟨b8, o8, A8, n8, c8, rfl, hb8, hc8, hx8, hle8, hI8⟩ := HRW
              rw [upp_getD] at hx8 hI8
              have hor := HOR.out h hhn
              obtain rfl : n = n8 := by rw [← hx8.out, up_length, hor.len]
              have hl8 : (up (W.getD h [])).length = n := hx8.out
              have hw6 := HB6.out.size
              have f1 := idx_up_mem ((hor.mem s).2 hsn)
              have f2 := idx_up_mem ((hor.mem h).2 hhn)
              have f3 := idx_up_mem ((hor.mem (tr.getD h 0)).2 (HTL.out.2 h hhn))
              have HQ1 : Hid (∀ wv, Below w6.heap.size w6 wv → ∀ d, Calls Try.prog 19 #[.slice A8 n c8, .int .i64 (s : Nat)] (wv.drewN d) fun e w'' => e = .returned (.int .i64 (place (W.getD h []) s : Nat)) ∧ ∃ k, w'' = wv.drewN k) := fun wv hw d => by
                rw [← f1]; exact idx_q hl8 hlen hI8 hw6 hw d
              have HQ2 : Hid (∀ wv, Below w6.heap.size w6 wv → ∀ d, Calls Try.prog 19 #[.slice A8 n c8, .int .i64 (h : Nat)] (wv.drewN d) fun e w'' => e = .returned (.int .i64 (place (W.getD h []) h : Nat)) ∧ ∃ k, w'' = wv.drewN k) := fun wv hw d => by
                rw [← f2]; exact idx_q hl8 hlen hI8 hw6 hw d
              have HQ3 : Hid (∀ wv, Below w6.heap.size w6 wv → ∀ d, Calls Try.prog 19 #[.slice A8 n c8, .int .i64 (tr.getD h 0 : Nat)] (wv.drewN d) fun e w'' => e = .returned (.int .i64 (place (W.getD h []) (tr.getD h 0) : Nat)) ∧ ∃ k, w'' = wv.drewN k) := fun wv hw d => by
                rw [← f3]; exact idx_q hl8 hlen hI8 hw6 hw d
              have HC8 : Hid (∀ wv, Below w6.heap.size w6 wv → wv.cell? ⟨b8, o8 + h, none⟩ = some (.slice A8 n c8)) := fun wv hw => (hw.cell (p := ⟨b8, o8 + h, none⟩) (by show b8 < _; omega)).trans hc8
              obtain ⟨b9, o9, x9, rfl, hb9, hc9, hx9⟩ := HI6.out.at_ (k := h) (by rw [up_length, HTL.out.1]; exact hhn)
              obtain rfl : x9 = ((tr.getD h 0 : Nat) : Int) := by rw [← hx9.out, up_getD]
              have HC9 : Hid (∀ wv, Below w6.heap.size w6 wv → wv.cell? ⟨b9, o9 + h, none⟩ = some (.int .i64 (tr.getD h 0 : Nat))) := fun wv hw => (hw.cell (p := ⟨b9, o9 + h, none⟩) hb9).trans hc9
              have HYN : Hid (y = true → place (W.getD h []) s ≤ place (W.getD h []) (tr.getD h 0) → ∀ x, x < h + 1 → place (W.getD x []) (m.getD x 0).toNat ≤ place (W.getD x []) (tr.getD x 0)) := fun e hp x hx => by
                by_cases e2 : x = h
                · subst e2; rw [hqs, Int.toNat_natCast]; exact hp
                · exact HY.out e x (by omega)
              have hd35 : decide ((place (W.getD h []) h : Int) < (place (W.getD h []) s : Int)) = false := decide_eq_false (by omega)
              have e8 := HC8.out _ HBW.out
              have HP35 := hide hps
              clear hx5 hqs hx8 hI8 hor f1 f2 f3 hx9 hc8 hc9 hl8 hle8 hps HY
              generalize place (W.getD h []) s = p1 at *
              generalize place (W.getD h []) h = p2 at *
              generalize tr.getD h 0 = tx at *
              generalize place (W.getD h []) tx = p3 at *
              go_upto_region 35 with (fail)
              go_cut [129, 150] from 129 to 170 (fun i v wx => i = .int .i64 (h : Nat) ∧ v = .bool false ∧ Hid (IntsA wx w6.heap.size (some ⟨b5, o5, none⟩) m) ∧ Hid (Below w6.heap.size w6 wx))
              case first =>
                go_quiet ((first | (with_reducible exact HQ1.out _ HBW.out _) | (with_reducible exact HQ2.out _ HBW.out _)))
                go_wp2
                go_meet
                exact ⟨rfl, congrArg Value.bool (decide_eq_false (Nat.not_lt.2 HP35.out)), hide (HI7.out.keep fun _ _ => rfl), hide (below_drewN HBW.out _)⟩
              case rest =>
                clear HI7 HBW hc5 e8
                obtain ⟨rfl, rfl, HI7, HBW⟩ := hcut
                cases y
                · go_wp2
                  go_quiet (fail)
                  go_wp2
                  go_roundw
                  case rel => exact ⟨h + 1, false, by omega, by go_num, rfl, hide (fun e => by cases e), hide (HI7.out.keep fun _ _ => rfl), hide (below_drewN HBW.out _)⟩
                  case measure => simp [intOf]; omega
                · have e8 := HC8.out _ HBW.out
                  have e9 := HC9.out _ HBW.out
                  go_wp2
                  go_quiet ((first | (with_reducible exact HQ1.out _ HBW.out _) | (with_reducible exact HQ3.out _ HBW.out _)))
                  go_wp2
                  go_roundw
                  case rel => exact ⟨h + 1, decide (p1 ≤ p3), by omega, by go_num, rfl, hide (fun e => HYN.out trivial (of_decide_eq_true e)), hide (HI7.out.keep fun _ _ => rfl), hide (below_drewN HBW.out _)⟩
                  case measure => simp [intOf]; omega
            · obtain rfl : n = h := by omega
              cases y
              · go_wp2
                go_roundw
                case rel => exact ⟨a + 1, by omega, by go_num, HBW⟩
                case measure => simp [intOf]; omega
              · have hme := HOQ.out.best (HY.out rfl)
                have HEQ := hide (equal_any A7 O6 n n c7 c6 w6.heap.size w6.heap.size m (up tr) wr HOQ.out.len (by rw [up_length, HTL.out.1]) hlen HI7.out (HI6.out.below HBW.out))
                rw [decide_eq_true hme] at HEQ
                clear hme
                go_wp2_with fail
                refine (HEQ.out).mono ?_
                rintro e w7 ⟨rfl, d7, rfl⟩
                go_wp2
                go_roundw
                case rel => exact ⟨a + 1, by omega, by go_num, hide (below_drewN HBW.out _)⟩
                case measure => simp [intOf]; omega
        · obtain rfl : jn = a := by omega
          go_wp2_with fail
          refine (HTR.out _).mono ?_
          rintro e w8 ⟨rfl, hb8⟩
          have HB8 := hide (HB6.out.trans ((HBX.out.trans (hb8.mono HBX.out.size)).mono HB6.out.size))
          clear hb8
          go_wp2
          go_ret
          exact ⟨rfl, HB8.out⟩
end Go.Proofs.Ytgognkofnegobaa
