/-
  The walk of DatesIdle.
-/
import Derived.Test.YtiadineakhcclaaDApi
import Derived.Test.YtiadineakhcclaaDInv
import Derived.Test.YtiadineakhcclaaDAwake
import Derived.Test.YtiadineakhcclaaDOf
import Derived.Test.YtiadineakhcclaaDRefValid
namespace Go.Proofs.Ytiadineakhcclaa
open Go.RowKit Go.Deep
set_option linter.unusedVariables false
set_option linter.unusedSimpArgs false

/-- What the plan's pieces keep. -/
structure IdleOk (L : List J4) (p : List P3) : Prop where
  len : p.length ≤ 300
  w : WholeP L p
  idle : ∀ q, q < p.length → lastTo p q < (p.getD q p0).fr → ∀ j, j < L.length → (doneTo L.length p q).getD j 0 < (L.getD j j0).t → (p.getD q p0).fr ≤ (L.getD j j0).r
theorem idle_ok (sh : Bool) {L : List J4} (hL : JobsOk L) : IdleOk L (planN sh L) := ⟨(runP_ok sh hL 300).num, planN_whole sh hL, (pinv_run sh hL 300 (Nat.le_refl _)).idle⟩
theorem done_le {L : List J4} {p : List P3} (h : ∀ k, k < p.length → OkPc L p k) (j : Nat) (hj : j < L.length) : ∀ d k, k + d ≤ p.length → (doneTo L.length p k).getD j 0 ≤ (doneTo L.length p (k + d)).getD j 0
  | 0, k, _ => Int.le_refl _
  | d + 1, k, hk => by
    have h1 := done_le h j hj d k (by omega)
    have h2 := h (k + d) (by omega)
    have h3 := h2.lt
    have e : (doneTo L.length p (k + (d + 1))).getD j 0 = if j = (p.getD (k + d) p0).job.toNat then (doneTo L.length p (k + d)).getD (p.getD (k + d) p0).job.toNat 0 + ((p.getD (k + d) p0).to - (p.getD (k + d) p0).fr) else (doneTo L.length p (k + d)).getD j 0 := by
      show (doneTo L.length p (k + d + 1)).getD j 0 = _
      rw [doneTo, getD_set_i _ _ _ _ _ (by rw [doneTo_len]; have := h2.ja; have := h2.jb; omega)]
    rw [e]
    split
    · rename_i h4; subst h4; omega
    · exact h1
set_option maxRecDepth 100000 in
set_option maxHeartbeats 3200000 in
theorem datesIdle_any (A : Option Addr) (n c : Nat) (L : List J4) (w : World) (hn : L.length = n) (hlen : n ≤ 9223372036854775807) (hA : JobsA w w.heap.size A L) :
    Calls Try.prog 4 #[.slice A n c] w fun e w' => e = .returned (.bool true) ∧ Below w.heap.size w w' := by
  have HB0 : Hid (Below w.heap.size w w) := hide (Below.refl _ _)
  have HOF := hide (fun w' (hb : Below w.heap.size w w') => of_any A n c L w' hn hlen (hA.next hb))
  have HRV := hide (fun w' (hb : Below w.heap.size w w') => drefvalid_any A n c L w' hn hlen (hA.next hb))
  have HAW := hide (fun w' => awake_any w')
  cases hv : jobsB L
  · have HNP := hide (fun w' X k c' (hk : (L.take 10).length = k) (hX : JobsA w' w'.heap.size X (L.take 10)) => plan_no X k c' (L.take 10) w' hk (by rw [← hk, List.length_take]; omega) hX (by rw [jobsB_take]; exact hv))
    have HNS := hide (fun w' X k c' (hk : (L.take 10).length = k) (hX : JobsA w' w'.heap.size X (L.take 10)) => short_no X k c' (L.take 10) w' hk (by rw [← hk, List.length_take]; omega) hX (by rw [jobsB_take]; exact hv))
    rw [hv] at HRV
    clear hv hn hA
    go_enter Try.func4, Try.ntmps4
    go_wp2_with (first
      | (go_at_call 18; refine (HOF.out _ HB0.out).mono ?_; rintro e w1 ⟨X1, k1, c1, rfl, hk1, hc1, hx1, hb1⟩; have HK1 := hide hk1; have HX1 := hide (jobs_of_own hx1); have HB1 := hide (HB0.out.trans (hb1.mono HB0.out.size)); clear hx1 hb1 hk1)
      | (go_at_call 24; refine (HNP.out _ X1 k1 c1 HK1.out HX1.out).mono ?_; rintro e w2 ⟨rfl, hb2⟩; have HB2 := hide (HB1.out.trans (hb2.mono HB1.out.size)); clear hb2)
      | (go_at_call 18; refine (HOF.out _ HB2.out).mono ?_; rintro e w3 ⟨X3, k3, c3, rfl, hk3, hc3, hx3, hb3⟩; have HK3 := hide hk3; have HX3 := hide (jobs_of_own hx3); have HB3 := hide (HB2.out.trans (hb3.mono HB2.out.size)); clear hx3 hb3 hk3)
      | (go_at_call 17; refine (HNS.out _ X3 k3 c3 HK3.out HX3.out).mono ?_; rintro e w4 ⟨rfl, hb4⟩; have HB4 := hide (HB3.out.trans (hb4.mono HB3.out.size)); clear hb4)
      | (go_at_call 20; refine (HAW.out _).mono ?_; rintro e w5 ⟨rfl, hb5⟩; have HB5 := hide (HB4.out.trans (hb5.mono HB4.out.size)); clear hb5))
    go_ret
    exact ⟨by simp, HB5.out⟩
  · have hL := jobsB_iff.1 hv
    have h8 : n ≤ 8 := by rw [← hn]; exact hL.le
    have h1n : 1 ≤ n := by rw [← hn]; exact hL.pos
    have HKN : Hid (∀ k, (L.take 10).length = k → n = k) := fun k h => by rw [hL.take, hn] at h; exact h
    have HYP := hide (fun w' X c' (hX : JobsA w' w'.heap.size X (L.take 10)) => plan_yes X n c' L w' hn hlen (by have := hX; rw [hL.take] at this; exact this) hv)
    have HYS := hide (fun w' X c' (hX : JobsA w' w'.heap.size X (L.take 10)) => short_yes X n c' L w' hn hlen (by have := hX; rw [hL.take] at this; exact this) hv)
    have HN := hide hn
    have HL := hide hL
    have HA := hide hA
    have HID := hide (fun sh => idle_ok sh hL)
    generalize endSum L (planN true L) = es at *
    rw [hv] at HRV
    clear hv hn hA hL
    go_enter Try.func4, Try.ntmps4
    go_wp2_with (first
      | (go_at_call 18; refine (HOF.out _ HB0.out).mono ?_; rintro e w1 ⟨X1, k1, c1, rfl, hk1, hc1, hx1, hb1⟩; obtain rfl : n = k1 := HKN.out _ hk1; have HX1 := hide (jobs_of_own hx1); have HB1 := hide (HB0.out.trans (hb1.mono HB0.out.size)); clear hx1 hb1 hk1)
      | (go_at_call 24; refine (HYP.out _ X1 c1 HX1.out).mono ?_; rintro e w2 ⟨P2, m2, c2, rfl, hm2, hc2, hP2, hb2⟩; have HM2 := hide hm2; have HP2 := hide hP2; clear hm2 hP2; have HB2 := hide (HB1.out.trans (hb2.mono HB1.out.size)); clear hb2)
      | (go_at_call 18; refine (HOF.out _ HB2.out).mono ?_; rintro e w3 ⟨X3, k3, c3, rfl, hk3, hc3, hx3, hb3⟩; obtain rfl : n = k3 := HKN.out _ hk3; have HX3 := hide (jobs_of_own hx3); have HP2 := hide (HP2.out.next hb3); have HB3 := hide (HB2.out.trans (hb3.mono HB2.out.size)); clear hx3 hb3 hk3)
      | (go_at_call 17; refine (HYS.out _ X3 c3 HX3.out).mono ?_; rintro e w4 ⟨P4, m4, c4, rfl, hm4, hc4, hP4, hb4⟩; have HM4 := hide hm4; have HP2 := hide (HP2.out.next hb4); have HP4 := hide hP4; clear hm4 hP4; have HB4 := hide (HB3.out.trans (hb4.mono HB3.out.size)); clear hb4)
      | (go_at_call 19; refine (HRV.out _ HB4.out).mono ?_; rintro e w5 ⟨rfl, hb5⟩; have HP2 := hide (HP2.out.next hb5); have HP4 := hide (HP4.out.next hb5); have HB5 := hide (HB4.out.trans (hb5.mono HB4.out.size)); clear hb5))
    obtain ⟨wz, hwz⟩ : ∃ wz, wz = w5.alloc (.cells #[.slice P2 m2 c2, .slice P4 m4 c4] 23) := ⟨_, rfl⟩
    have hbx : wz.heap[w5.heap.size]? = some (.cells #[.slice P2 m2 c2, .slice P4 m4 c4] 23 (0, 0)) := by rw [hwz]; exact alloc_new _ _ _ rfl
    have hbz : Below w5.heap.size w5 wz := by subst hwz; exact (Below.refl _ _).alloc (Nat.le_refl _) _
    have HBZ := hide (HB5.out.trans (hbz.mono HB5.out.size))
    have HROW : Hid (∀ k, k < 2 → ∃ sh X m c', (∀ w', Below wz.heap.size wz w' → w'.cell? ⟨w5.heap.size, k, none⟩ = some (.slice X m c')) ∧ (planN sh L).length = m ∧ PcsA wz wz.heap.size X (planN sh L)) := fun k hk => by
      match k, hk with
      | 0, _ => exact ⟨false, P2, m2, c2, fun w' hb => blk_cell ((hb.block _ (lt_of_block hbx)).trans hbx) 0, HM2.out, HP2.out.next hbz⟩
      | 1, _ => exact ⟨true, P4, m4, c4, fun w' hb => blk_cell ((hb.block _ (lt_of_block hbx)).trans hbx) 1, HM4.out, HP4.out.next hbz⟩
    rw [← hwz]
    clear hwz hbx hbz
    go_loopw [55] (fun v wr => ∃ k : Nat, k ≤ 2 ∧ v = .int .i64 k ∧ Below wz.heap.size wz wr) (fun v _ => 2 - (intOf v).toNat)
    case atStart => exact ⟨0, by omega, rfl, Below.refl _ _⟩
    case round =>
      obtain ⟨kk, hkk, rfl, hbo⟩ := hrel
      obtain ⟨wo, rfl⟩ : ∃ wo : World, wo = wr := ⟨_, rfl⟩
      have HBO := hide hbo
      by_cases hlt2 : kk < 2
      · obtain ⟨sh, X, m, c', hcell, hml, hPX⟩ := HROW.out kk hlt2
        have hckk := hcell wo hbo
        have hkk2 : (kk : Int) < 2 := by omega
        have HM := hide hml
        have HP := hide (hPX.next hbo)
        have HIK := hide (HID.out sh)
        have HJO := hide ((HA.out.next HBZ.out).next hbo)
        obtain ⟨p, hp⟩ : ∃ p, planN sh L = p := ⟨_, rfl⟩
        rw [hp] at HM HP HIK
        have hm3 : m ≤ 300 := by have h9 := HIK.out.len; rw [HM.out] at h9; exact h9
        have hmk := run_make_row' (P := Try.prog) 41 3 (.int .i64 0) 8 Try.underlying41 info_int rfl .i64 .i64 n (by omega) (by omega)
        obtain ⟨w1, hw1⟩ : ∃ w1, w1 = wo.alloc (.cells (madeCells #[.int .i64 0] n) 3) := ⟨_, rfl⟩
        have HR1 : Hid (w1.rowIs wo.heap.size 3 n (fun a => .int .i64 (if a < 0 then (L.getD a j0).t else 0))) := by subst hw1; exact World.rowIs_made wo (.int .i64 0) n _
        have HB1 : Hid (Below wo.heap.size wo w1) := by subst hw1; exact (Below.refl _ _).alloc (Nat.le_refl _) _
        clear hp hml hPX hbo hcell
        go_wp2
        rw [← hw1]
        clear hw1 hmk hckk
        go_loopw [64] (fun v wr => ∃ k : Nat, k ≤ n ∧ v = .int .i64 k ∧ Hid (wr.rowIs wo.heap.size 3 n (fun a => .int .i64 (if a < k then (L.getD a j0).t else 0))) ∧ Below wo.heap.size wo wr) (fun v _ => n - (intOf v).toNat)
        case atStart => exact ⟨0, Nat.zero_le _, rfl, HR1, HB1.out⟩
        case round =>
          obtain ⟨k, hk, rfl, HR, hb⟩ := hrel
          have HB := hide hb
          by_cases hlt : k < n
          · obtain ⟨bj, oj, t, r, d, u, rfl, hbj, hc0, hc1, hc2, hc3, hx⟩ := (HJO.out.next hb).at_ (k := k) (by rw [HN.out]; exact hlt)
            have hkn : (k : Int) < (n : Int) := by omega
            have hlr := HR.out.lt
            have hfz := HR.out.frozen k
            have hcr := HR.out.cell hlt
            have HX := hide hx.out
            clear hx hb
            go_wp2
            go_roundw
            case rel =>
              refine ⟨k + 1, by omega, by go_num, hide ((HR.out.set k _).congr fun a ha => ?_), HB.out.setCell (Nat.le_refl _) _⟩
              show (if a = k then Value.int .i64 t else Value.int .i64 (if a < k then (L.getD a j0).t else 0)) = Value.int .i64 (if a < k + 1 then (L.getD a j0).t else 0)
              by_cases e : a = k
              · subst e; rw [if_pos rfl, if_pos (by omega), HX.out]
              · rw [if_neg e]
                by_cases e2 : a < k
                · rw [if_pos e2, if_pos (by omega)]
                · rw [if_neg e2, if_neg (by omega)]
            case measure => simp [intOf] <;> omega
          · obtain rfl : n = k := by omega
            have HR2 : Hid (wr.rowIs wo.heap.size 3 n (fun a => .int .i64 ((L.getD a j0).t - (doneTo n p 0).getD a 0))) := HR.out.congr fun a ha => by
              rw [if_pos ha, doneTo, List.getD_eq_getElem?_getD (l := List.replicate _ _), List.getElem?_replicate, if_pos ha]; simp
            have HLT0 : Hid ((0 : Int) = lastTo p 0) := by rw [lastTo, if_pos rfl]; exact hide rfl
            clear HR hb
            go_wp2
            go_loopw [12, 78] (fun v12 v wr => ∃ (q : Nat) (y : Int), q ≤ m ∧ v = .int .i64 q ∧ v12 = .int .i64 y ∧ Hid (y = lastTo p q) ∧ Hid (wr.rowIs wo.heap.size 3 n (fun a => .int .i64 ((L.getD a j0).t - (doneTo n p q).getD a 0))) ∧ Below wo.heap.size wo wr) (fun _ v _ => m - (intOf v).toNat)
            case atStart => exact ⟨0, 0, Nat.zero_le _, rfl, rfl, HLT0, HR2, HB.out⟩
            case round =>
              obtain ⟨q, y, hq, rfl, rfl, HY, HRq, hbq⟩ := hrel
              obtain ⟨w3, rfl⟩ : ∃ w3 : World, w3 = wr := ⟨_, rfl⟩
              have HBQ := hide hbq
              by_cases hlt : q < m
              · obtain ⟨bp, op, j, fr, t, rfl, hbp, hp0, hp1, hp2, hx⟩ := (HP.out.next hbq).at_ (k := q) (by rw [HM.out]; exact hlt)
                have hqn : (q : Int) < (m : Int) := by omega
                have hok := HIK.out.w.pcs q (by rw [HM.out]; exact hlt)
                have hja := hok.ja; have hjb := hok.jb; have hfl := hok.lt; have hle := hok.le
                have hff := ok_from HL.out hok
                rw [hx.out] at hja hjb hfl hle hff
                rw [HN.out] at hjb
                rw [← HY.out] at hff
                simp only [] at hja hjb hfl hle hff
                obtain ⟨hf0, hyf⟩ := hff
                have hy0 : 0 ≤ y := by
                  rw [HY.out, lastTo]
                  split
                  · exact Int.le_refl _
                  · have h9 := (HIK.out.w.pcs (q - 1) (by rw [HM.out]; omega))
                    have := (ok_from HL.out h9).1
                    have := h9.lt
                    omega
                obtain ⟨i, rfl⟩ : ∃ i : Nat, j = i := ⟨j.toNat, by omega⟩
                have hi : i < n := by omega
                have hin : (i : Int) < (n : Int) := by omega
                have hni : decide (n ≤ i) = false := decide_eq_false (by omega)
                have hjz : decide ((i : Int) < 0) = false := decide_eq_false (by omega)
                have hdf : decide (fr < y) = false := decide_eq_false (by omega)
                have hdt : decide (t ≤ fr) = false := decide_eq_false (by omega)
                have HX := hide hx.out
                have HIDQ := hide (HIK.out.idle q (by rw [HM.out]; exact hlt))
                rw [← HY.out, hx.out, HN.out] at HIDQ
                obtain ⟨w4, hw4⟩ : ∃ w4, w4 = w3.alloc (.cells #[.int .i64 (i : Nat), .int .i64 fr, .int .i64 t] 44) := ⟨_, rfl⟩
                have hbx : w4.heap[w3.heap.size]? = some (.cells #[.int .i64 (i : Nat), .int .i64 fr, .int .i64 t] 44 (0, 0)) := by rw [hw4]; exact alloc_new _ _ _ rfl
                have HB34 : Hid (Below w3.heap.size w3 w4) := by subst hw4; exact (Below.refl _ _).alloc (Nat.le_refl _) _
                have HBO4 := hide (HBQ.out.trans (HB34.out.mono HBQ.out.size))
                have HQ : Hid (∀ w', Below w4.heap.size w4 w' → w'.cell? ⟨w3.heap.size, 0, none⟩ = some (.int .i64 (i : Nat)) ∧ w'.cell? ⟨w3.heap.size, 1, none⟩ = some (.int .i64 fr) ∧ w'.cell? ⟨w3.heap.size, 2, none⟩ = some (.int .i64 t) ∧ w3.heap.size < w'.heap.size) := fun w' hb => by
                  have h := (hb.block _ (lt_of_block hbx)).trans hbx
                  exact ⟨blk_cell h 0, blk_cell h 1, blk_cell h 2, lt_of_block h⟩
                have HR4 := hide (HRq.out.of_block (HB34.out.block _ HRq.out.lt))
                clear hx hok hbq hbx
                go_wp2
                rw [← hw4]
                clear hw4
                go_loopw [107] (fun v wr => ∃ a : Nat, a ≤ n ∧ v = .int .i64 a ∧ Below w4.heap.size w4 wr) (fun v _ => n - (intOf v).toNat)
                case atStart => exact ⟨0, Nat.zero_le _, rfl, Below.refl _ _⟩
                case round =>
                  obtain ⟨a, ha, rfl, hb4⟩ := hrel
                  obtain ⟨w5', rfl⟩ : ∃ w5' : World, w5' = wr := ⟨_, rfl⟩
                  have HB4 := hide hb4
                  obtain ⟨z0, z1, z2, z3⟩ := HQ.out _ hb4
                  have HBD : Hid (∀ x, Below w4.heap.size w4 (w5'.drewN x)) := fun x => below_drewN HB4.out x
                  have HR5 := hide (HR4.out.of_block (HB4.out.block _ HR4.out.lt))
                  by_cases hlta : a < n
                  · obtain ⟨bj, oj, t1, r1, d1, u1, rfl, hbj, hj0, hj1, hj2, hj3, hxj⟩ := ((HJO.out.next HBO4.out).next hb4).at_ (k := a) (by rw [HN.out]; exact hlta)
                    have han : (a : Int) < (n : Int) := by omega
                    obtain ⟨lf, hlf⟩ : ∃ lf, (L.getD a j0).t - (doneTo n p q).getD a 0 = lf := ⟨_, rfl⟩
                    have hcr : w5'.cell? ⟨wo.heap.size, a, none⟩ = some (.int .i64 lf) := by rw [← hlf]; exact HR5.out.cell hlta
                    have hs5 : wo.heap.size < w5'.heap.size := HR5.out.lt
                    have hwait : y < fr → 0 < lf → ¬ r1 < fr := fun h1 h2 h3 => by
                      have h9 := HIDQ.out h1 a hlta (by omega)
                      rw [hxj.out] at h9
                      simp only [] at h9
                      omega
                    clear hxj hlf hb4
                    by_cases hg : y < fr
                    · have dg : decide (y < fr) = true := decide_eq_true hg
                      by_cases hl0 : 0 < lf
                      · have dl : decide (0 < lf) = true := decide_eq_true hl0
                        have dr : decide (r1 < fr) = false := decide_eq_false (hwait hg hl0)
                        clear hwait hl0 hg
                        go_wp2
                        go_quiet (fail)
                        go_wp2
                        go_roundw
                        case rel => exact ⟨a + 1, by omega, by go_num, HBD.out _⟩
                        case measure => simp [intOf] <;> omega
                      · have dl : decide (0 < lf) = false := decide_eq_false hl0
                        clear hwait hl0 hg
                        go_wp2
                        go_quiet (fail)
                        go_wp2
                        go_roundw
                        case rel => exact ⟨a + 1, by omega, by go_num, HBD.out _⟩
                        case measure => simp [intOf] <;> omega
                    · have dg : decide (y < fr) = false := decide_eq_false hg
                      clear hwait hg
                      go_wp2
                      go_quiet (fail)
                      go_wp2
                      go_roundw
                      case rel => exact ⟨a + 1, by omega, by go_num, HBD.out _⟩
                      case measure => simp [intOf] <;> omega
                  · obtain rfl : n = a := by omega
                    obtain ⟨lf, hlf⟩ : ∃ lf, (L.getD i j0).t - (doneTo n p q).getD i 0 = lf := ⟨_, rfl⟩
                    have hcr : w5'.cell? ⟨wo.heap.size, i, none⟩ = some (.int .i64 lf) := by rw [← hlf]; exact HR5.out.cell hi
                    have hfz := HR5.out.frozen i
                    have hs5 : wo.heap.size < w5'.heap.size := HR5.out.lt
                    have hlb : -1000 ≤ lf ∧ lf ≤ 20 := by
                      have h1 := HL.out.at_ i (by rw [HN.out]; exact hi)
                      have h2 := doneTo_bd HL.out q (fun j hj => HIK.out.w.pcs j (by rw [HM.out]; omega)) i (by rw [HN.out]; exact hi)
                      have h3 := lastTo_le q (fun j hj => HIK.out.w.pcs j (by rw [HM.out]; omega))
                      rw [HN.out] at h2
                      omega
                    obtain ⟨hlb0, hlb1⟩ := hlb
                    have HLF := hide hlf
                    have HLT : Hid (t = lastTo p (q + 1)) := by rw [lastTo_succ, HX.out]; exact hide rfl
                    have HBO5 := hide (HBO4.out.trans (HB4.out.mono HBO4.out.size))
                    have HBO5D : Hid (∀ x, Below wo.heap.size wo (w5'.drewN x)) := fun x => below_drewN HBO5.out x
                    have hne : w3.heap.size ≠ wo.heap.size := by have := HRq.out.lt; omega
                    clear hlf hb4
                    have hs1 : IntKind.i64.wrap (t - fr) = t - fr := by rw [IntKind.wrap_i64]; omega
                    have hs2 : IntKind.i64.wrap (lf - (t - fr)) = lf - (t - fr) := by rw [IntKind.wrap_i64]; omega
                    go_wp2
                    go_region
                    go_wp2
                    clear hs1 hs2
                    go_roundw
                    case rel =>
                      refine ⟨q + 1, t, by omega, by go_num, rfl, HLT, hide (((HR5.out.of_block (w' := w5'.drewN _) rfl).set i _).congr fun a2 ha2 => ?_), (HBO5D.out _).setCell (Nat.le_refl _) _⟩
                      rw [doneTo, HX.out]
                      simp only [Int.toNat_natCast]
                      show (if a2 = i then Value.int .i64 (lf - (t - fr)) else Value.int .i64 ((L.getD a2 j0).t - (doneTo n p q).getD a2 0)) = _
                      rw [getD_set_i _ _ _ _ _ (by rw [doneTo_len]; exact hi)]
                      by_cases e : a2 = i
                      · subst e; rw [if_pos rfl, if_pos rfl, ← HLF.out]; congr 1; omega
                      · rw [if_neg e, if_neg e]
                    case measure => simp [intOf] <;> omega
              · obtain rfl : m = q := by omega
                have HZ : Hid (∀ a, a < n → (L.getD a j0).t - (doneTo n p m).getD a 0 = 0) := fun a ha => by
                  have h1 := HIK.out.w.all a (by rw [HN.out]; exact ha)
                  rw [HN.out, HM.out] at h1
                  omega
                clear hbq
                go_wp2
                go_loop [149] (fun v => ∃ a : Nat, a ≤ n ∧ v = .int .i64 a) (fun v => n - (intOf v).toNat)
                case atStart => exact ⟨0, Nat.zero_le _, rfl⟩
                case round =>
                  obtain ⟨a, ha, rfl⟩ := hrel
                  by_cases hlta : a < n
                  · have hcr : w3.cell? ⟨wo.heap.size, a, none⟩ = some (.int .i64 0) := by have h9 := HRq.out.cell hlta; rw [HZ.out a hlta] at h9; exact h9
                    have han : (a : Int) < (n : Int) := by omega
                    go_wp2
                    go_round
                    case rel => exact ⟨a + 1, by omega, by go_num⟩
                    case measure => simp [intOf] <;> omega
                  · obtain rfl : n = a := by omega
                    have HBOO := hide (HBO.out.trans (HBQ.out.mono HBO.out.size))
                    go_wp2
                    go_roundw
                    case rel => exact ⟨kk + 1, by omega, by go_num, HBOO.out⟩
                    case measure => simp [intOf] <;> omega
      · obtain rfl : kk = 2 := by omega
        have HB9 := hide (HBZ.out.trans (HBO.out.mono HBZ.out.size))
        clear hbo
        go_wp2_with (first
          | (go_at_call 20; refine (HAW.out _).mono ?_; rintro e w8 ⟨rfl, hb8⟩; have HB8 := hide (HB9.out.trans (hb8.mono HB9.out.size)); clear hb8))
        go_ret
        exact ⟨rfl, HB8.out⟩
end Go.Proofs.Ytiadineakhcclaa
