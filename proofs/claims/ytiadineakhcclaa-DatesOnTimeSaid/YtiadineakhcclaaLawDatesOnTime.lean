/-
  The walk of DatesOnTime.
-/
import Derived.Test.YtiadineakhcclaaDOnTQ
import Derived.Test.YtiadineakhcclaaOTSrt
import Derived.Test.YtiadineakhcclaaAppAny
import Derived.Test.YtiadineakhcclaaDMostA
import Derived.Test.YtiadineakhcclaaDAwake
import Derived.Test.YtiadineakhcclaaDOf
import Derived.Test.YtiadineakhcclaaDRefValid
namespace Go.Proofs.Ytiadineakhcclaa
open Go.RowKit Go.Deep
set_option linter.unusedVariables false
set_option linter.unusedSimpArgs false

theorem jobs_grown {w w' : World} {B : Nat} {row : Option Nat} {A : Option Addr} {L : List J4} (hA : JobsA w B A L) (hg : w.grownBy w' row) (hne : ∀ b o, A = some ⟨b, o, none⟩ → row ≠ some b) : JobsA w' w'.heap.size A L := fun i hi => by
  obtain ⟨b, o, e, hb, h1, h2, h3, h4⟩ := hA i hi
  have hn : ∀ x, some (⟨b, x, none⟩ : Addr).block ≠ row := fun x h => hne b o e h.symm
  exact ⟨b, o, e, Nat.lt_of_lt_of_le (cell_lt h1) hg.size, hg.cell h1 (hn _), hg.cell h2 (hn _), hg.cell h3 (hn _), hg.cell h4 (hn _)⟩
set_option maxRecDepth 100000 in
set_option maxHeartbeats 6400000 in
theorem datesOnTime_any (A : Option Addr) (n c : Nat) (L : List J4) (X : Option Addr) (m cm : Nat) (l : List Int) (w : World) (hn : L.length = n) (hlen : n ≤ 9223372036854775807) (hA : JobsA w w.heap.size A L) (hm : l.length = m) (hmc : m ≤ cm) (hlm : m ≤ 9223372036854775807) (hX : IntsA w w.heap.size X l) :
    Calls Try.prog 15 #[.slice A n c, .slice X m cm] w fun e w' => e = .returned (.bool true) ∧ Below w.heap.size w w' := by
  have hmf : ∀ (fn : Fn) (first cap : Array Value) (w : World), (Instr.makeFunc fn first cap).run Try.prog w = .ok (.func fn first cap) w := fun _ _ _ _ => rfl
  obtain ⟨w0, hw0⟩ : ∃ w0, w0 = w.alloc (.cells #[.slice A n c] 22) := ⟨_, rfl⟩
  have hbx : w0.heap[w.heap.size]? = some (.cells #[.slice A n c] 22 (0, 0)) := by rw [hw0]; exact alloc_new _ _ _ rfl
  have HB01 : Hid (Below w.heap.size w w0) := by subst hw0; exact (Below.refl _ _).alloc (Nat.le_refl _) _
  have HQ : Hid (∀ w', Below w0.heap.size w0 w' → w'.cell? ⟨w.heap.size, 0, none⟩ = some (.slice A n c)) := fun w' hb => blk_cell ((hb.block _ (lt_of_block hbx)).trans hbx) 0
  have HW0L : Hid (w.heap.size < w0.heap.size) := lt_of_block hbx
  have HB0 : Hid (Below w0.heap.size w0 w0) := hide (Below.refl _ _)
  have HJ := hide (fun w' (hb : Below w0.heap.size w0 w') => (hA.next HB01.out).next hb)
  have HI := hide (fun w' (hb : Below w0.heap.size w0 w') => (hX.next HB01.out).next hb)
  have qq0 := HQ.out _ HB0.out
  have HAW := hide (fun w' => awake_any w')
  have HRV := hide (fun w' (hb : Below w0.heap.size w0 w') => drefvalid_any A n c L w' hn hlen (HJ.out w' hb))
  have HW0 := hide hw0
  clear hw0 hbx
  cases hv : jobsB L
  · have HOF : Hid (∀ w', Below w0.heap.size w0 w' → Calls Try.prog 18 #[.slice A n c] w' fun e w'' => ∃ X k c', e = .returned (.slice X k c') ∧ (L.take 10).length = k ∧ JobsA w'' w''.heap.size X (L.take 10) ∧ Below w'.heap.size w' w'') := fun w' hb =>
      (of_any A n c L w' hn hlen (HJ.out w' hb)).mono fun e w'' ⟨X, k, c', h1, h2, h3, h4, h5⟩ => ⟨X, k, c', h1, h2, jobs_of_own h4, h5⟩
    have HNO := hide (fun w' X k c' (hk : (L.take 10).length = k) (hX : JobsA w' w'.heap.size X (L.take 10)) => most_no X k c' (L.take 10) w' hk (by rw [← hk, List.length_take]; omega) hX (by rw [jobsB_take]; exact hv))
    have HNW := hide (fun w' X k c' (hk : (L.take 10).length = k) (hX : JobsA w' w'.heap.size X (L.take 10)) => weigh_no X k c' (L.take 10) w' hk (by rw [← hk, List.length_take]; omega) hX (by rw [jobsB_take]; exact hv))
    clear hv hn hA hX hm
    go_enter Try.func15, Try.ntmps15
    go_upto_region 1 with (fail)
    rw [← HW0.out]
    go_wp2_with (first
      | (go_at_call 18; (with_reducible refine (HOF.out _ HB0.out).mono ?_); rintro e w1 ⟨X1, k1, c1, rfl, hk1, hx1, hb1⟩; have HX1 := hide hx1; have HK1 := hide hk1; have HB1 := hide (HB0.out.trans (hb1.mono HB0.out.size)); have qq1 := HQ.out _ HB1.out; clear hx1 hb1 hk1)
      | (go_at_call 49; (with_reducible refine (HNO.out _ X1 k1 c1 HK1.out HX1.out).mono ?_); rintro e w2 ⟨rfl, hb2⟩; have HB2 := hide (HB1.out.trans (hb2.mono HB1.out.size)); have qq2 := HQ.out _ HB2.out; clear hb2)
      | (go_at_call 18; (with_reducible refine (HOF.out _ HB2.out).mono ?_); rintro e w3 ⟨X3, k3, c3, rfl, hk3, hx3, hb3⟩; have HX3 := hide hx3; have HK3 := hide hk3; have HB3 := hide (HB2.out.trans (hb3.mono HB2.out.size)); have qq3 := HQ.out _ HB3.out; clear hx3 hb3 hk3)
      | (go_at_call 50; (with_reducible refine (HNW.out _ X3 k3 c3 HK3.out HX3.out).mono ?_); rintro e w4 ⟨rfl, hb4⟩; have HB4 := hide (HB3.out.trans (hb4.mono HB3.out.size)); have qq4 := HQ.out _ HB4.out; clear hb4)
      | (go_at_call 20; (with_reducible refine (HAW.out _).mono ?_); rintro e w5 ⟨rfl, hb5⟩; have HB5 := hide (HB4.out.trans (hb5.mono HB4.out.size)); have qq5 := HQ.out _ HB5.out; clear hb5))
    go_ret
    exact ⟨rfl, HB01.out.trans (HB5.out.mono HB01.out.size)⟩
  · have hL := jobsB_iff.1 hv
    have h8 : n ≤ 8 := by rw [← hn]; exact hL.le
    have h1n : 1 ≤ n := by rw [← hn]; exact hL.pos
    have HOF : Hid (∀ w', Below w0.heap.size w0 w' → Calls Try.prog 18 #[.slice A n c] w' fun e w'' => ∃ X c', e = .returned (.slice X n c') ∧ JobsA w'' w''.heap.size X L ∧ (∀ b o, X = some ⟨b, o, none⟩ → w'.heap.size ≤ b) ∧ Below w'.heap.size w' w'') := fun w' hb =>
      (of_any A n c L w' hn hlen (HJ.out w' hb)).mono fun e w'' ⟨X, k, c', h1, h2, h3, h4, h5⟩ => by
        have h6 := jobs_of_own h4
        rw [hL.take] at h2 h6
        rw [hn] at h2; subst h2
        exact ⟨X, c', h1, h6, fun b o e => (own_ltS h4 b (by subst e; rfl)).1, h5⟩
    have HMO := hide (fun w' X c' (hX : JobsA w' w'.heap.size X L) => most_yes X n c' L w' hn hlen hX hv)
    have HWE := hide (fun w' X c' (hX : JobsA w' w'.heap.size X L) => weigh_yes X n c' L w' hn hlen hX hv)
    have HYE := hide (fun w' Z c' Y q d (o : List Int) (hX : JobsA w' w'.heap.size Z L) (hq : o.length = q) (hq9 : q ≤ 9223372036854775807) (hY : IntsA w' w'.heap.size Y o) (ho : ordB o n = true) => ends_yes Z n c' L Y q d o w' hn hlen hX hq hq9 hY hv ho)
    have HNE := hide (fun w' Z c' Y q d (o : List Int) (hX : JobsA w' w'.heap.size Z L) (hq : o.length = q) (hq9 : q ≤ 9223372036854775807) (hY : IntsA w' w'.heap.size Y o) (ho : ordB o n = false) => ends_no Z n c' L Y q d o w' hn hlen hX hq hq9 hY (.inr ⟨hv, ho⟩))
    have HLI := hide (fun w' (hb : Below w0.heap.size w0 w') => dlist_any X m cm w'.heap.size l w' hm hmc hlm (HI.out w' hb))
    have HFA : Hid (fitB L (mostN L) = true) := mostN_fit L
    have HFB : Hid (fitB L (weighN L) = true) := weighN_fit L
    have hMa : mostN L < 256 := mostN_lt hL.le
    have hMb : weighN L < 256 := weighN_lt hL
    have HTM := hide (fun o (ho : ordB o n = true) => timeS_most hL (o := o) (by rw [hn]; exact ho))
    have HTW := hide (fun o (ho : ordB o n = true) => timeS_weigh hL (o := o) (by rw [hn]; exact ho))
    rw [hn] at HTM HTW
    have HFO := hide (fun S q s (hf : fitB L S = true) (hq : (fstL S n).length = q) (h : Sorted0 (due L) (fun k => (fstL S n).getD k 0) s q q) => first_ontime hL (q := q) (s := s) hf (by rw [hn]; exact hq) (by rw [hn]; exact h))
    rw [hn] at HFO
    have HN := hide hn
    have HL := hide hL
    have HWB := hide (fun S k (hk : k ≤ n) => wtN_bd hL S k (by rw [hn]; exact hk))
    rw [hv] at HRV
    have hAb : ∀ b o, A = some ⟨b, o, none⟩ → b < w.heap.size := fun b o e => by
      obtain ⟨b1, o1, e1, h2, _⟩ := hA 0 (by omega)
      rw [e] at e1
      injection e1 with e1; injection e1 with e2
      omega
    have HAB := hide hAb
    have HSR := hide (fun w' base Y q c1 l0 (hb : Below w0.heap.size w0 w') (hbase : w0.heap.size ≤ base) (hq : l0.length = q) (hlow : ∀ k, k < q → l0.getD k 0 < n) (hasc : ∀ a b, a < b → b < q → l0.getD a 0 < l0.getD b 0) (hq8 : q ≤ 8) hown => srt_OT A n c w.heap.size base L Y q c1 l0 w' hn hL hq hlow hasc hq8 (HJ.out w' hb) (fun b o e => by have := HAB.out b o e; have := HW0L.out; omega) (by have := HW0L.out; omega) (HQ.out w' hb) hown)
    clear hv hn hA hX hm hL hAb
    obtain ⟨Ma, hMae⟩ : ∃ Ma, Ma = mostN L := ⟨_, rfl⟩
    obtain ⟨Mb, hMbe⟩ : ∃ Mb, Mb = weighN L := ⟨_, rfl⟩
    rw [← hMae] at HMO HFA hMa HTM
    rw [← hMbe] at HWE HFB hMb HTW
    clear hMae hMbe
    obtain ⟨wt, hwt⟩ : ∃ wt, wt = wtN L Mb n := ⟨_, rfl⟩
    rw [← hwt] at HWE HTW
    have HWT := hide hwt
    clear hwt
    go_enter Try.func15, Try.ntmps15
    go_upto_region 1 with (fail)
    rw [← HW0.out]
    go_wp2_with (first
      | (go_at_call 18; (with_reducible refine (HOF.out _ HB0.out).mono ?_); rintro e w1 ⟨X1, c1, rfl, hx1, hlo1, hb1⟩; have HX1 := hide hx1; have HLO1 := hide hlo1; have HB1 := hide (HB0.out.trans (hb1.mono HB0.out.size)); have qq1 := HQ.out _ HB1.out; clear hx1 hb1 hlo1)
      | (go_at_call 49; (with_reducible refine (HMO.out _ X1 c1 HX1.out).mono ?_); rintro e w2 ⟨rfl, hb2⟩; have HB2 := hide (HB1.out.trans (hb2.mono HB1.out.size)); have qq2 := HQ.out _ HB2.out; clear hb2)
      | (go_at_call 18; (with_reducible refine (HOF.out _ HB2.out).mono ?_); rintro e w3 ⟨X3, c3, rfl, hx3, hlo3, hb3⟩; have HX3 := hide hx3; have HLO3 := hide hlo3; have HB3 := hide (HB2.out.trans (hb3.mono HB2.out.size)); have qq3 := HQ.out _ HB3.out; clear hx3 hb3 hlo3)
      | (go_at_call 50; (with_reducible refine (HWE.out _ X3 c3 HX3.out).mono ?_); rintro e w4 ⟨rfl, hb4⟩; have HB4 := hide (HB3.out.trans (hb4.mono HB3.out.size)); have qq4 := HQ.out _ HB4.out; clear hb4)
      | (go_at_call 19; (with_reducible refine (HRV.out _ HB4.out).mono ?_); rintro e w5 ⟨rfl, hb5⟩; have HB5 := hide (HB4.out.trans (hb5.mono HB4.out.size)); have qq5 := HQ.out _ HB5.out; clear hb5))
    obtain ⟨wz, hwz⟩ : ∃ wz, wz = w5.alloc (.cells #[.int .i64 (Ma : Nat), .int .i64 (Mb : Nat)] 3) := ⟨_, rfl⟩
    have hbx : wz.heap[w5.heap.size]? = some (.cells #[.int .i64 (Ma : Nat), .int .i64 (Mb : Nat)] 3 (0, 0)) := by rw [hwz]; exact alloc_new _ _ _ rfl
    have hbz : Below w5.heap.size w5 wz := by subst hwz; exact (Below.refl _ _).alloc (Nat.le_refl _) _
    have HBZ := hide (HB5.out.trans (hbz.mono HB5.out.size))
    have HROW : Hid (∀ k, k < 2 → ∃ S : Nat, (∀ w', Below wz.heap.size wz w' → w'.cell? ⟨w5.heap.size, k, none⟩ = some (.int .i64 (S : Nat))) ∧ S < 256 ∧ fitB L S = true ∧ (k = 0 → S = Ma)) := fun k hk => by
      match k, hk with
      | 0, _ => exact ⟨Ma, fun w' hb => blk_cell ((hb.block _ (lt_of_block hbx)).trans hbx) 0, hMa, HFA.out, fun _ => rfl⟩
      | 1, _ => exact ⟨Mb, fun w' hb => blk_cell ((hb.block _ (lt_of_block hbx)).trans hbx) 1, hMb, HFB.out, fun h => by omega⟩
    rw [← hwz]
    clear hwz hbx hbz qq0 qq1 qq2 qq3 qq4 qq5
    go_loopw [10, 63] (fun v10 v wr => ∃ k : Nat, k ≤ 2 ∧ v = .int .i64 k ∧ v10 = .int .i64 ((if k = 0 then 0 else cardF n Ma : Nat)) ∧ Below wz.heap.size wz wr) (fun _ v _ => 2 - (intOf v).toNat)
    case atStart => exact ⟨0, by omega, rfl, rfl, Below.refl _ _⟩
    case round =>
      obtain ⟨kk, hkk, rfl, rfl, hbo⟩ := hrel
      obtain ⟨wo, rfl⟩ : ∃ wo : World, wo = wr := ⟨_, rfl⟩
      have HBO := hide (HBZ.out.trans (hbo.mono HBZ.out.size))
      have HBZO := hide hbo
      have qqo := HQ.out _ HBO.out
      obtain ⟨mo, hmo⟩ : ∃ mo, mo = (if kk = 0 then 0 else cardF n Ma : Nat) := ⟨_, rfl⟩
      rw [← hmo]
      have HMOV := hide hmo
      clear hmo
      by_cases hlt2 : kk < 2
      · obtain ⟨S, hcell, hS, hfS, hS0⟩ := HROW.out kk hlt2
        have hckk := hcell wo hbo
        have hkk2 : (kk : Int) < 2 := by omega
        have HFS := hide hfS
        have HS0 := hide hS0
        have hS62 : S < 2 ^ 62 := Nat.lt_trans hS (by decide)
        have HCELL := hide hcell
        clear hcell hfS hS0 hbo
        go_wp2
        go_loopw [14, 15, 69] (fun vf vs v wr => ∃ (k q p c1 c2 : Nat) (X Y : Option Addr), k ≤ n ∧ v = .int .i64 k ∧ vf = .slice X q c1 ∧ vs = .slice Y p c2 ∧ q ≤ c1 ∧ p ≤ c2 ∧ q ≤ k ∧ p ≤ k ∧ Hid ((fstL S k).length = q) ∧ Hid ((rstL S k).length = p) ∧
          Hid (wr.ownsRow wo.heap.size 3 1 (.slice X q c1) q ((up (fstL S k)).map (Value.int .i64))) ∧ Hid (wr.ownsRow wo.heap.size 3 1 (.slice Y p c2) p ((up (rstL S k)).map (Value.int .i64))) ∧
          Hid (∀ g g', (Value.slice X q c1).ownBlock = some g → (Value.slice Y p c2).ownBlock = some g' → g ≠ g') ∧ Below wo.heap.size wo wr) (fun _ _ v _ => n - (intOf v).toNat)
        case atStart => exact ⟨0, 0, 0, 0, 0, none, none, Nat.zero_le _, rfl, rfl, rfl, Nat.le_refl _, Nat.le_refl _, Nat.le_refl _, Nat.le_refl _, hide rfl, hide rfl, hide (World.ownsRow_nil _ _ _ _), hide (World.ownsRow_nil _ _ _ _), hide (fun g g' h => by cases h), Below.refl _ _⟩
        case round =>
          obtain ⟨k, q, p, c1, c2, XX, YY, hk, rfl, rfl, rfl, hqc, hpc, hqk, hpk, HQL, HPL, HOX, HOY, HDJ, hb⟩ := hrel
          have HB := hide hb
          by_cases hlt : k < n
          · have hkn : (k : Int) < (n : Int) := by omega
            have hkk8 : (k : Int) ≤ 8 := by omega
            have hS1 := shr_test S k hS62
            have hF1 := fstL_succ S k
            have hR1 := rstL_succ S k
            clear hb
            cases hbt : S.testBit k with
            | true =>
              rw [hbt] at hS1
              rw [if_pos hbt] at hF1 hR1
              have HF1 := hide hF1
              have HR1 := hide hR1
              clear hbt hF1 hR1
              go_wp2_with (at_builtin; refine wpList_app1 (w0 := wr) _ _ 41 3 (.int .i64 0) 8 rfl rfl Try.underlying41 info_int rfl wo.heap.size (.slice XX q c1) q _ (.int .i64 (k : Nat)) rfl rfl rfl ⟨_, rfl⟩ HOX.out rfl (by omega) (by omega) HB.out.size ?_; intro g2 cg w3 hown1 hd1 hd2 hg1 hgl2 hgrow; have HOW1 := hide hown1; have HG := hide hgrow; have HG1 := hide hg1; clear hown1 hgrow hg1)
              go_roundw
              case rel =>
                refine ⟨k + 1, q + 1, p, cg, c2, some ⟨g2, 0, none⟩, YY, by omega, by go_num, rfl, rfl, hd1, hpc, by omega, by omega, hide (by rw [HF1.out, List.length_append, HQL.out]; rfl), hide (by rw [HR1.out]; exact HPL.out), hide ?_, hide ?_, hide (fun g g' h h' => ?_), HB.out.grown HG.out HB.out.size (fun q hq => (own_lt HOX.out q hq).1)⟩
                · have e9 : (up (fstL S (k + 1))).map (Value.int .i64) = (up (fstL S k)).map (Value.int .i64) ++ [Value.int .i64 (k : Int)] := by rw [HF1.out]; simp [up]
                  rw [e9]; exact HOW1.out
                · rw [HR1.out]
                  exact own_keepS HOY.out (fun g hg => HG.out.block g (own_lt HOY.out g hg).2 (fun e => HDJ.out g g e.symm hg rfl))
                · obtain rfl : g = g2 := own_blk h
                  rcases HG1.out with h9 | h9
                  · exact HDJ.out _ _ h9 h'
                  · have := (own_lt HOY.out g' h').2; omega
              case measure => simp [intOf] <;> omega
            | false =>
              rw [hbt] at hS1
              rw [if_neg (by rw [hbt]; decide)] at hF1 hR1
              have HF1 := hide hF1
              have HR1 := hide hR1
              clear hbt hF1 hR1
              go_wp2_with (at_builtin; refine wpList_app1 (w0 := wr) _ _ 41 3 (.int .i64 0) 8 rfl rfl Try.underlying41 info_int rfl wo.heap.size (.slice YY p c2) p _ (.int .i64 (k : Nat)) rfl rfl rfl ⟨_, rfl⟩ HOY.out rfl (by omega) (by omega) HB.out.size ?_; intro g2 cg w3 hown1 hd1 hd2 hg1 hgl2 hgrow; have HOW1 := hide hown1; have HG := hide hgrow; have HG1 := hide hg1; clear hown1 hgrow hg1)
              go_roundw
              case rel =>
                refine ⟨k + 1, q, p + 1, c1, cg, XX, some ⟨g2, 0, none⟩, by omega, by go_num, rfl, rfl, hqc, hd1, by omega, by omega, hide (by rw [HF1.out]; exact HQL.out), hide (by rw [HR1.out, List.length_append, HPL.out]; rfl), hide ?_, hide ?_, hide (fun g g' h h' => ?_), HB.out.grown HG.out HB.out.size (fun q hq => (own_lt HOY.out q hq).1)⟩
                · rw [HF1.out]
                  exact own_keepS HOX.out (fun g hg => HG.out.block g (own_lt HOX.out g hg).2 (fun e => HDJ.out g g hg e.symm rfl))
                · have e9 : (up (rstL S (k + 1))).map (Value.int .i64) = (up (rstL S k)).map (Value.int .i64) ++ [Value.int .i64 (k : Int)] := by rw [HR1.out]; simp [up]
                  rw [e9]; exact HOW1.out
                · obtain rfl : g' = g2 := own_blk h'
                  rcases HG1.out with h9 | h9
                  · exact HDJ.out _ _ h h9
                  · have := (own_lt HOX.out g h).2; omega
              case measure => simp [intOf] <;> omega
          · obtain rfl : n = k := by omega
            have HFQ := hide (fstL_len S n)
            have HFR := hide (fst_rst S n)
            have hpq : q + p = n := by have := HFR.out; rw [HQL.out, HPL.out] at this; exact this
            have HLX := hide (HSR.out wr wo.heap.size XX q c1 (fstL S n) (HBO.out.trans (hb.mono HBO.out.size)) HBO.out.size HQL.out (fun k hk => (fst_at (by rw [HQL.out]; exact hk)).1) (fun a b hab hb => fst_asc S n a b hab (by rw [HQL.out]; exact hb)) (by omega) HOX.out)
            have HBR := hide (HBO.out.trans (hb.mono HBO.out.size))
            have qqr := HQ.out _ HBR.out
            have HPU : Hid ((up (rstL S n)).length = p) := hide (by rw [up_length]; exact HPL.out)
            have HFOS := hide (fun s h => HFO.out S q s HFS.out HQL.out h)
            have HORD := hide (fun s h => ord_part (key := due L) (s := s) HQL.out h)
            have HWOS := HBO.out.size
            have HWR : Hid (w0.heap.size ≤ wo.heap.size) := HBO.out.size
            clear hb qqo hckk
            go_wp2_with (first
              | (go_at_call 45; refine (HLX.out).mono ?_; rintro e w7 ⟨s, h1, h2, h3, rfl⟩; have H1 := hide h1; have HOX7 := hide h2; have HB7 := hide (HB.out.grown h3 HB.out.size (fun q hq => (own_lt HOX.out q hq).1)); have HB07 := hide (HBO.out.trans (HB7.out.mono HBO.out.size)); have qq7 := HQ.out _ HB07.out; have HOY7 := hide (own_keepS HOY.out (fun g hg => h3.block g (own_lt HOY.out g hg).2 (fun e => HDJ.out g g e.symm hg rfl))); clear h1 h2 h3)
              | (go_at_call 18; (with_reducible refine (HOF.out _ HB07.out).mono ?_); rintro e w8 ⟨X8, c8, rfl, hx8, hlo8, hb8⟩; have HX8 := hide hx8; have HLO8 := hide hlo8; have HB78 := hide (HB7.out.trans (hb8.mono HB7.out.size)); have HOX8 := hide (own_keepS HOX7.out (fun g hg => hb8.block g (own_lt HOX7.out g hg).2)); have HOY8 := hide (own_keepS HOY7.out (fun g hg => hb8.block g (own_lt HOY7.out g hg).2)); have HIY8 := hide (ints_of_own HOY8.out); have HXL := hide (fun g (hg : (Value.slice XX q c1).ownBlock = some g) => (own_lt HOX7.out g hg).2); have HS8 := HB78.out.size; clear hx8 hlo8 hb8)
              | (at_builtin; refine wpList_appAny _ _ 41 3 (.int .i64 0) 8 rfl rfl Try.underlying41 info_int rfl wo.heap.size (.slice XX q c1) q _ rfl YY p c2 w8.heap.size (up (rstL S n)) rfl HPU.out HIY8.out HOX8.out (by omega) (by omega) HS8 ?_; intro A9 c9 w9 hown9 hd9 hd9b hgrow9 hor9 hkp9; have HIX9 := hide (ints_kept HOX8.out hown9 hkp9); have HOW9 := hide hown9; have HG9 := hide hgrow9; have HX9 := hide (jobs_grown HX8.out hgrow9 (fun b o e h => by have h7 := HXL.out b h; have h8 := HLO8.out b o e; omega)); have HB9 := hide (HB78.out.grown hgrow9 HB78.out.size (fun g hg => (own_lt HOX8.out g hg).1)); clear hown9 hgrow9 hor9 hkp9)
              | (go_at_call 27; refine (HYE.out w9 X8 c8 A9 n c9 (up ((List.range q).map s) ++ up (rstL S n)) HX9.out (by rw [List.length_append, HPU.out, up_length, List.length_map, List.length_range]; exact hpq) hlen (ints_of_own (by have h9 := HOW9.out; rw [← List.map_append] at h9; exact h9)) (HORD.out s H1.out)).mono ?_; rintro e w10 ⟨Z10, z10, rfl, hz10, hI10, hb10⟩; have HI10 := hide hI10; have HB10 := hide (HB9.out.trans (hb10.mono HB9.out.size)); have HB010 := hide (HBO.out.trans (HB10.out.mono HBO.out.size)); have qq10 := HQ.out _ HB010.out; have HIX10 := hide (HIX9.out.next hb10); clear hI10 hb10))
            obtain ⟨o, ho⟩ : ∃ o, o = up ((List.range q).map s) ++ up (rstL S n) := ⟨_, rfl⟩
            have HOT := hide (HFOS.out s H1.out)
            rw [← ho] at HOT HI10
            clear ho
            obtain ⟨en, hen⟩ : ∃ en, en = rowN L o := ⟨_, rfl⟩
            have HEL : Hid (en.length = n) := by rw [hen, rowN, rowTo_len]; exact HN
            rw [← hen] at HOT HI10
            have HJ10 := hide (HJ.out _ HB010.out)
            have HQD := hide (fun w' (hb : Below w10.heap.size w10 w') => HQ.out w' (HB010.out.trans (hb.mono HB010.out.size)))
            clear hen HOX7 HOY7 HOX8 HOY8 HIY8 HOW9 HG9 HIX9 HX9 HLX HOX HOY HDJ qqr qq7
            go_wp2
            go_loopw [109] (fun v wr => ∃ k : Nat, k ≤ q ∧ v = .int .i64 k ∧ Below w10.heap.size w10 wr) (fun v _ => q - (intOf v).toNat)
            case atStart => exact ⟨0, Nat.zero_le _, rfl, Below.refl _ _⟩
            case round =>
              obtain ⟨k, hk, rfl, hb⟩ := hrel
              obtain ⟨w11, rfl⟩ : ∃ w11 : World, w11 = wr := ⟨_, rfl⟩
              have HB11 := hide hb
              by_cases hlt : k < q
              · have hkq : (k : Int) < (q : Int) := by omega
                obtain ⟨hsn, hde⟩ := HOT.out k hlt
                obtain ⟨bx, ox, x1, rfl, hbx, hcx, hxx⟩ := (HIX10.out.next hb).at_ (k := k) (by rw [up_length, List.length_map, List.length_range]; exact hlt)
                have e1 : x1 = (s k : Nat) := by
                  have := hxx.out
                  rw [up_getD] at this
                  rw [← this]; congr 1; rw [List.getD_eq_getElem?_getD]; simp [hlt]
                obtain ⟨j, hj⟩ : ∃ j, j = s k := ⟨_, rfl⟩
                rw [← hj] at hsn hde e1
                subst e1
                obtain ⟨by_, oy, y1, rfl, hby, hcy, hyy⟩ := (HI10.out.next hb).at_ (k := j) (by rw [HEL.out]; exact hsn)
                obtain ⟨bj, oj, t, r, d, u, rfl, hbj, hj0, hj1, hj2, hj3, hxj⟩ := (HJ10.out.next hb).at_ (k := j) (by rw [HN.out]; exact hsn)
                rw [hyy.out, hxj.out] at hde
                simp only [] at hde
                have hnd : decide (d < y1) = false := decide_eq_false (by omega)
                have hnd2 : ¬ d < y1 := by omega
                have hjn : (j : Int) < (n : Int) := by omega
                have qq11 := HQD.out _ hb
                have HBW : Hid (∀ q, Below w10.heap.size w10 (w11.drewN q)) := fun q => below_drewN hb q
                clear hb hj hyy hxj hxx hde
                go_wp2
                go_quiet (fail)
                go_wp2
                go_roundw
                case rel => exact ⟨k + 1, by omega, by go_num, HBW.out _⟩
                case measure => simp [intOf] <;> omega
              · obtain rfl : q = k := by omega
                have HB0E := hide (HBZO.out.trans ((HB10.out.trans (hb.mono HB10.out.size)).mono HBZO.out.size))
                clear hb
                by_cases hSM : S = Ma
                · subst hSM
                  have hqc2 : q = cardF n S := by rw [← HFQ.out]; exact HQL.out.symm
                  go_wp2
                  go_roundw
                  case rel => exact ⟨kk + 1, by omega, by go_num, by rw [if_neg (by omega)], HB0E.out⟩
                  case measure => simp [intOf] <;> omega
                · have hSn : ((S : Int) == (Ma : Int)) = false := by simp; omega
                  have hk1 : kk ≠ 0 := fun e => hSM (HS0.out e)
                  have hmo2 : mo = cardF n Ma := by rw [HMOV.out, if_neg hk1]
                  go_wp2
                  go_roundw
                  case rel => exact ⟨kk + 1, by omega, by go_num, by rw [if_neg (by omega), hmo2], HB0E.out⟩
                  case measure => simp [intOf] <;> omega
      · have hmo2 : mo = cardF n Ma := by rw [HMOV.out, if_neg (by omega)]
        subst hmo2
        have hMb62 : Mb < 2 ^ 62 := Nat.lt_trans hMb (by decide)
        have hcm8 : cardF n Ma ≤ n := cardF_le n Ma
        obtain ⟨cm, hcm⟩ : ∃ cm, cm = cardF n Ma := ⟨_, rfl⟩
        rw [← hcm] at HTM hcm8 ⊢
        clear hcm HSR HROW HFO HMO HWE HFA HFB hbo
        go_wp2
        go_loopw [11, 132] (fun v11 v wr => ∃ (k : Nat) (y : Int), k ≤ n ∧ v = .int .i64 k ∧ v11 = .int .i64 y ∧ Hid (y = wtN L Mb k) ∧ Below w0.heap.size w0 wr) (fun _ v _ => n - (intOf v).toNat)
        case atStart => exact ⟨0, 0, Nat.zero_le _, rfl, rfl, hide rfl, HBO.out⟩
        case round =>
          obtain ⟨k, y, hk, rfl, rfl, HY, hb2⟩ := hrel
          obtain ⟨w2, rfl⟩ : ∃ w2 : World, w2 = wr := ⟨_, rfl⟩
          have HB2 := hide hb2
          have qq2 := HQ.out _ hb2
          by_cases hlt : k < n
          · have hjn : (k : Int) < (n : Int) := by omega
            have hj8 : (k : Int) ≤ 8 := by omega
            obtain ⟨bj, oj, t, r, d, u, rfl, hbj, hj0, hj1, hj2, hj3, hxj⟩ := (HJ.out _ hb2).at_ (k := k) (by rw [HN.out]; exact hlt)
            have hdb := HL.out.at_ k (by rw [HN.out]; exact hlt)
            rw [hxj.out] at hdb
            simp only [] at hdb
            obtain ⟨_, _, _, _, _, _, hdb0, hdb1⟩ := hdb
            have hy := HWB.out Mb k hk
            rw [← HY.out] at hy
            obtain ⟨bt, hbt⟩ : ∃ b : Int, b = if Mb.testBit k = true then 1 else 0 := ⟨_, rfl⟩
            obtain ⟨p, hp⟩ : ∃ p : Int, p = if Mb.testBit k = true then u else 0 := ⟨_, rfl⟩
            have hbit : bits .and .i64 ((Mb : Int) / 2 ^ k) 1 = bt := by rw [hbt]; exact shr_bit Mb k hMb62
            have hpb : 0 ≤ p ∧ p ≤ 20 := by rw [hp]; split <;> omega
            have hup : bt * u = p := by rw [hbt, hp]; split <;> omega
            have HM9 : Hid (IntKind.i64.wrap (bt * u) = p) := by rw [hup, IntKind.wrap_i64]; exact hide (by omega)
            have HP9 : Hid (IntKind.i64.wrap (y + p) = y + p) := by rw [IntKind.wrap_i64]; exact hide (by omega)
            have HYN : Hid (y + p = wtN L Mb (k + 1)) := hide (by
              show _ = wtN L Mb k + if Mb.testBit k = true then (L.getD k j0).w else 0
              rw [hxj.out, ← HY.out, hp])
            have HBW : Hid (∀ q, Below w0.heap.size w0 (w2.drewN q)) := fun q => below_drewN hb2 q
            have hm := HM9.out
            have hpp := HP9.out
            clear hxj hb2 hup hbt hp
            go_wp2
            go_quiet (fail)
            go_wp2
            go_roundw
            case rel => exact ⟨k + 1, _, by omega, by go_num, rfl, HYN, HBW.out _⟩
            case measure => simp [intOf] <;> omega
          · obtain rfl : n = k := by omega
            have hyw : wt = y := by rw [HY.out, HWT.out]
            subst hyw
            obtain ⟨o, ho⟩ : ∃ o, o = l.take 10 := ⟨_, rfl⟩
            rw [← ho] at HLI
            have hqlen : o.length ≤ 10 := by rw [ho, List.length_take]; omega
            clear hb2 ho
            obtain ⟨q, hq⟩ : ∃ q, o.length = q := ⟨_, rfl⟩
            rw [hq] at HLI hqlen
            have HQL := hide hq
            clear hq
            cases hor : ordB o n
            · have HEN := hide (fun w' Z c' Y d (hX : JobsA w' w'.heap.size Z L) (hY : IntsA w' w'.heap.size Y o) => HNE.out w' Z c' Y q d o hX HQL.out (by omega) hY hor)
              clear hor
              go_wp2_with (first
                | (go_at_call 18; (with_reducible refine (HOF.out _ HB2.out).mono ?_); rintro e w20 ⟨X20, c20, rfl, hx20, hlo20, hb20⟩; have HX20 := hide hx20; have HLO20 := hide hlo20; have HB20 := hide (HB2.out.trans (hb20.mono HB2.out.size)); have qq20 := HQ.out _ HB20.out; clear hx20 hb20 hlo20)
                | (go_at_call 28; (with_reducible refine (HLI.out _ HB20.out).mono ?_); rintro e w21 ⟨Y21, d21, rfl, hd21, hY21, hb21, _⟩; have HY21 := hide hY21; have HX20 := hide (HX20.out.next hb21); have HB21 := hide (HB20.out.trans (hb21.mono HB20.out.size)); have qq21 := HQ.out _ HB21.out; clear hY21 hb21)
                | (go_at_call 27; (with_reducible refine (HEN.out _ X20 c20 Y21 d21 HX20.out HY21.out).mono ?_); rintro e w22 ⟨rfl, hb22⟩; have HB22 := hide (HB21.out.trans (hb22.mono HB21.out.size)); have qq22 := HQ.out _ HB22.out; clear hb22)
                | (go_at_call 20; (with_reducible refine (HAW.out _).mono ?_); rintro e w23 ⟨rfl, hb23⟩; have HB23 := hide (HB22.out.trans (hb23.mono HB22.out.size)); have qq23 := HQ.out _ HB23.out; clear hb23))
              go_ret
              exact ⟨by simp, HB01.out.trans (HB23.out.mono HB01.out.size)⟩
            · have HEY := hide (fun w' Z c' Y d (hX : JobsA w' w'.heap.size Z L) (hY : IntsA w' w'.heap.size Y o) => HYE.out w' Z c' Y q d o hX HQL.out (by omega) hY hor)
              have hTM := HTM.out o hor
              have hTW := HTW.out o hor
              have HTB := hide (fun j (hj : j < n) => timeS_bit (L := L) (o := o) (j := j) (by rw [HN.out]; exact hj))
              obtain ⟨en, hen⟩ : ∃ en, en = rowN L o := ⟨_, rfl⟩
              have HEL : Hid (en.length = n) := by rw [hen, rowN, rowTo_len]; exact HN
              rw [← hen] at HEY HTB
              obtain ⟨T, hT⟩ : ∃ T, T = timeS L o := ⟨_, rfl⟩
              rw [← hT] at hTM hTW HTB
              have HTM2 := hide hTM
              have HTW2 := hide hTW
              clear hor hen hT hTM hTW HTM HTW HYE HNE
              go_wp2_with (first
                | (go_at_call 18; (with_reducible refine (HOF.out _ HB2.out).mono ?_); rintro e w20 ⟨X20, c20, rfl, hx20, hlo20, hb20⟩; have HX20 := hide hx20; have HLO20 := hide hlo20; have HB20 := hide (HB2.out.trans (hb20.mono HB2.out.size)); have qq20 := HQ.out _ HB20.out; clear hx20 hb20 hlo20)
                | (go_at_call 28; (with_reducible refine (HLI.out _ HB20.out).mono ?_); rintro e w21 ⟨Y21, d21, rfl, hd21, hY21, hb21, _⟩; have HY21 := hide hY21; have HX20 := hide (HX20.out.next hb21); have HB21 := hide (HB20.out.trans (hb21.mono HB20.out.size)); have qq21 := HQ.out _ HB21.out; clear hY21 hb21)
                | (go_at_call 27; (with_reducible refine (HEY.out _ X20 c20 Y21 d21 HX20.out HY21.out).mono ?_); rintro e w22 ⟨Z22, z22, rfl, hz22, hI22, hb22⟩; have HB22 := hide (HB21.out.trans (hb22.mono HB21.out.size)); have qq22 := HQ.out _ HB22.out; have HI22 := hide hI22; clear hI22; clear hb22))
              go_loopw [23, 24, 170] (fun v23 v24 v wr => ∃ (k a : Nat) (y : Int), k ≤ n ∧ a ≤ k ∧ v = .int .i64 k ∧ v23 = .int .i64 (a : Nat) ∧ v24 = .int .i64 y ∧ Hid (a = cardF k T) ∧ Hid (y = wtN L T k) ∧ Below w22.heap.size w22 wr) (fun _ _ v _ => n - (intOf v).toNat)
              case atStart => exact ⟨0, 0, 0, Nat.zero_le _, Nat.le_refl _, rfl, rfl, rfl, hide rfl, hide rfl, Below.refl _ _⟩
              case round =>
                obtain ⟨k, a, y, hk, hak, rfl, rfl, rfl, HCA, HYT, hb⟩ := hrel
                obtain ⟨w23, rfl⟩ : ∃ w23 : World, w23 = wr := ⟨_, rfl⟩
                have HB23 := hide (HB22.out.trans (hb.mono HB22.out.size))
                have qq23 := HQ.out _ HB23.out
                by_cases hlt : k < n
                · have hjn : (k : Int) < (n : Int) := by omega
                  obtain ⟨bj, oj, t, r, d, u, rfl, hbj, hj0, hj1, hj2, hj3, hxj⟩ := (HJ.out _ HB23.out).at_ (k := k) (by rw [HN.out]; exact hlt)
                  obtain ⟨bz, oz, x, rfl, hbz, hcz, hxz⟩ := (HI22.out.next hb).at_ (k := k) (by rw [HEL.out]; exact hlt)
                  have hdb := HL.out.at_ k (by rw [HN.out]; exact hlt)
                  have hbit := HTB.out k hlt
                  rw [hxj.out] at hdb hbit
                  rw [hxz.out] at hbit
                  simp only [] at hdb hbit
                  obtain ⟨_, _, _, _, _, _, hdb0, hdb1⟩ := hdb
                  have hy := HWB.out T k hk
                  rw [← HYT.out] at hy
                  have hC : cardF (k + 1) T = cardF k T + if T.testBit k = true then 1 else 0 := rfl
                  have hW : wtN L T (k + 1) = wtN L T k + if T.testBit k = true then (L.getD k j0).w else 0 := rfl
                  rw [← HCA.out] at hC
                  rw [← HYT.out, hxj.out] at hW
                  have HBW : Hid (∀ q, Below w22.heap.size w22 (w23.drewN q)) := fun q => below_drewN hb q
                  have HCE := hide (fun q => HQ.out _ (HB22.out.trans ((HBW.out q).mono HB22.out.size)))
                  by_cases hle : x ≤ d
                  · have hle2 : decide (x ≤ d) = true := decide_eq_true hle
                    rw [hle2] at hbit
                    rw [if_pos hbit] at hC hW
                    have HC := hide hC
                    have HW := hide hW
                    have hyu : IntKind.i64.wrap (y + u) = y + u := by rw [IntKind.wrap_i64]; omega
                    clear hb hxj hxz hbit hC hW
                    go_wp2
                    go_quiet (fail)
                    go_wp2
                    go_roundw
                    case rel => exact ⟨k + 1, a + 1, y + u, by omega, by omega, by go_num, by go_num, rfl, HC.out.symm, HW.out.symm, HBW.out _⟩
                    case measure => simp [intOf] <;> omega
                  · have hle2 : decide (x ≤ d) = false := decide_eq_false hle
                    rw [hle2] at hbit
                    rw [if_neg (by rw [hbit]; decide)] at hC hW
                    have HC : Hid (a = cardF (k + 1) T) := hide (by omega)
                    have HW : Hid (y = wtN L T (k + 1)) := hide (by omega)
                    clear hb hxj hxz hbit hC hW
                    go_wp2
                    go_quiet (fail)
                    go_wp2
                    go_roundw
                    case rel => exact ⟨k + 1, a, y, by omega, by omega, by go_num, rfl, rfl, HC, HW, HBW.out _⟩
                    case measure => simp [intOf] <;> omega
                · obtain rfl : n = k := by omega
                  have hac : (a : Int) ≤ (cm : Int) := by have := HTM2.out; rw [← HCA.out] at this; omega
                  have hyc : y ≤ wt := by have := HTW2.out; rw [← HYT.out] at this; exact this
                  clear hb
                  go_wp2_with (first
                    | (go_at_call 20; (with_reducible refine (HAW.out _).mono ?_); rintro e w24 ⟨rfl, hb24⟩; have HB24 := hide (HB23.out.trans (hb24.mono HB23.out.size)); have qq24 := HQ.out _ HB24.out; clear hb24))
                  go_ret
                  exact ⟨by simp, HB01.out.trans (HB24.out.mono HB01.out.size)⟩
end Go.Proofs.Ytiadineakhcclaa
