/-
  dates: whole, Check.
-/
import Derived.Test.YtiadineakhcclaaDWhole
import Derived.Test.YtiadineakhcclaaDPlans
namespace Go.Proofs.Ytiadineakhcclaa
open Go.RowKit Go.Deep
set_option linter.unusedVariables false
set_option linter.unusedSimpArgs false

set_option maxRecDepth 100000 in
set_option maxHeartbeats 3200000 in
theorem whole_any (A : Option Addr) (n c : Nat) (L : List J4) (P : Option Addr) (m pc : Nat) (p : List P3) (w : World) (hn : L.length = n) (hL : JobsOk L) (hm : p.length = m) (hmm : m ≤ 9223372036854775807) (hA : JobsA w w.heap.size A L) (hP : PcsA w w.heap.size P p) :
    Calls Try.prog 64 #[.slice A n c, .slice P m pc] w fun e w' => e = .returned (.bool (wholeB L p)) ∧ Below w.heap.size w w' := by
  have h8 : n ≤ 8 := by rw [← hn]; exact hL.le
  have h1 : 1 ≤ n := by rw [← hn]; exact hL.pos
  have hmk := run_make_row' (P := Try.prog) 115 3 (.int .i64 0) 8 Try.underlying115 info_int rfl .i64 .i64 n (by omega) (by omega)
  obtain ⟨w1, hw1⟩ : ∃ w1, w1 = w.alloc (.cells (madeCells #[.int .i64 0] n) 3) := ⟨_, rfl⟩
  have HR1 : Hid (w1.rowIs w.heap.size 3 n (fun a => .int .i64 ((doneTo n p 0).getD a 0))) := by
    subst hw1
    refine (World.rowIs_made w (.int .i64 0) n _).congr fun a ha => ?_
    rw [doneTo, List.getD_eq_getElem?_getD, List.getElem?_replicate, if_pos ha]; rfl
  have HB1 : Hid (Below w.heap.size w w1) := by subst hw1; exact (Below.refl _ _).alloc (Nat.le_refl _) _
  have HN := hide hn
  have HM := hide hm
  have HL := hide hL
  have HA := hide hA
  have HP := hide hP
  have HBD : Hid (∀ k, (∀ j, j < k → OkPc L p j) → ∀ i, i < n → 0 ≤ (doneTo n p k).getD i 0 ∧ (doneTo n p k).getD i 0 ≤ 1000) := fun k h i hi => by
    have h1 := doneTo_bd hL k h i (by rw [hn]; exact hi)
    have h2 := lastTo_le k h
    rw [hn] at h1
    omega
  clear hn hL hA hm hP
  go_enter Try.func64, Try.ntmps64
  go_wp2
  rw [← hw1]
  clear hw1 hmk
  go_loopw [15] (fun v wr => ∃ k : Nat, k ≤ m ∧ v = .int .i64 k ∧ Hid (∀ j, j < k → OkPc L p j) ∧ Hid (wr.rowIs w.heap.size 3 n (fun a => .int .i64 ((doneTo n p k).getD a 0))) ∧ Below w.heap.size w wr) (fun v _ => m - (intOf v).toNat)
  case atStart => exact ⟨0, Nat.zero_le _, rfl, fun j hj => absurd hj (by omega), HR1, HB1.out⟩
  case round =>
    obtain ⟨k, hk, rfl, HK, HR, hb⟩ := hrel
    have HB := hide hb
    by_cases hlt : k < m
    · obtain ⟨bp, op, j, f, t, rfl, hbp, hp0, hp1, hp2, hx⟩ := (HP.out.below hb).at_ (k := k) (by rw [HM.out]; exact hlt)
      have HX := hide hx.out
      have hkn : (k : Int) < (m : Int) := by omega
      have HBA : Hid (∀ o, Below w.heap.size w (wr.alloc o)) := fun o => HB.out.alloc HB.out.size _
      have HBAD : Hid (∀ o q, Below w.heap.size w ((wr.alloc o).drewN q)) := fun o q => below_drewN (HBA.out o) q
      have HNO : Hid ((∀ h : OkPc L p k, False) → wholeB L p = false) := fun h => wholeB_false fun hw => h (hw.pcs k (by rw [HM.out]; exact hlt))
      clear hx hb
      by_cases c1 : 0 ≤ j ∧ j ≤ (n : Int) - 1
      · have HBT := hide (fun w' => between_any j 0 ((n : Int) - 1) true w' (decide_eq_true c1).symm)
        obtain ⟨c1a, c1b⟩ := c1
        obtain ⟨i, rfl⟩ : ∃ i : Nat, j = i := ⟨j.toNat, by omega⟩
        have hi : i < n := by omega
        have hin : (i : Int) < (n : Int) := by omega
        obtain ⟨bj, oj, t1, r, d, u, rfl, hbj, hj0, hj1, hj2, hj3, hxj⟩ := (HA.out.below HB.out).at_ (k := i) (by rw [HN.out]; exact hi)
        have HXJ := hide hxj.out
        have hr0 := HL.out.at_ i (by rw [HN.out]; exact hi)
        rw [hxj.out] at hr0
        simp only [] at hr0
        obtain ⟨_, _, hr0, _⟩ := hr0
        have hs3 : w.heap.size < wr.heap.size := HR.out.lt
        have hbj9 : bj < wr.heap.size := by omega
        have hbp9 : bp < wr.heap.size := by omega
        clear hxj
        by_cases c2 : r ≤ f
        · have dc2 : decide (f < r) = false := decide_eq_false (by omega)
          by_cases c3 : f < t
          · have dc3 : decide (t ≤ f) = false := decide_eq_false (by omega)
            by_cases c4 : t ≤ 1000
            · have dc4 : decide (1000 < t) = false := decide_eq_false (by omega)
              by_cases hk0 : k = 0
              · have hkd : decide ((0 : Int) < (k : Int)) = false := decide_eq_false (by omega)
                have HOKK : Hid (OkPc L p k) := ⟨by rw [HX.out]; exact Int.natCast_nonneg i, by rw [HX.out, HN.out]; exact hin, by rw [HX.out]; simp only [Int.toNat_natCast]; rw [HXJ.out]; exact c2, by rw [HX.out]; exact c3, by rw [HX.out]; exact c4, fun h => absurd h (by omega)⟩
                obtain ⟨dn, hdn⟩ : ∃ dn, (doneTo n p k).getD i 0 = dn := ⟨_, rfl⟩
                have hdb := HBD.out k HK.out i hi
                rw [hdn] at hdb
                obtain ⟨hdb0, hdb1⟩ := hdb
                have hcr : wr.cell? ⟨w.heap.size, i, none⟩ = some (.int .i64 dn) := by rw [← hdn]; exact HR.out.cell (by omega)
                have hfz := HR.out.frozen i
                have HDN := hide hdn
                clear hdn
                have hkz : k ≤ 0 := by omega
                have hkd2 : decide (0 < k) = false := decide_eq_false (by omega)
                clear hk0
                have HBT2 := hide (fun w' => (HBT.out w').mono fun _ _ h => (⟨h.1, h.2.symm⟩ : _ ∧ _))
                have hs1 : IntKind.i64.wrap ((n : Int) - 1) = (n : Int) - 1 := by rw [IntKind.wrap_i64]; omega
                have hs2 : IntKind.i64.wrap (t - f) = t - f := by rw [IntKind.wrap_i64]; omega
                have hs5 : IntKind.i64.wrap (dn + (t - f)) = dn + (t - f) := by rw [IntKind.wrap_i64]; omega
                go_wp2
                go_quiet ((go_at_call 76; with_reducible exact Calls.quiet_of_same (HBT2.out _)))
                go_wp2
                go_quiet (fail)
                go_wp2
                go_region
                go_wp2
                clear hs2 hs5 hs1
                go_roundw
                case rel =>
                  refine ⟨k + 1, by omega, by go_num, fun j2 hj2 => ?_, hide ((((HR.out.alloc _).of_block (w' := (wr.alloc _).drewN _) rfl).set i _).congr fun a ha => ?_), (HBAD.out _ _).setCell (Nat.le_refl _) _⟩
                  · by_cases e : j2 = k
                    · subst e; exact HOKK.out
                    · exact HK.out j2 (by omega)
                  · rw [doneTo, HX.out]
                    simp only [Int.toNat_natCast]
                    show (if a = i then Value.int .i64 (dn + (t - f)) else Value.int .i64 ((doneTo n p (k)).getD a 0)) = _
                    rw [getD_set_i _ _ _ _ _ (by rw [doneTo_len]; exact hi), HDN.out]
                    by_cases e : a = i
                    · rw [if_pos e, if_pos e]
                    · rw [if_neg e, if_neg e]
                case measure => simp [intOf] <;> omega
              · obtain ⟨k1, hkk1, hkk2⟩ : ∃ k1, k ≤ k1 + 1 ∧ k1 + 1 ≤ k := ⟨k - 1, by omega, by omega⟩
                obtain ⟨bp2, op2, jp, fp, tp, e1, hbp2, hq0, hq1, hq2, hxp⟩ := (HP.out.below HB.out).at_ (k := k1) (by rw [HM.out]; omega)
                injection e1 with e1; injection e1 with e2 e3
                subst e2; subst e3
                have HXP := hide hxp.out
                have hkd : decide ((0 : Int) < (k : Int)) = true := decide_eq_true (by omega)
                clear hk0
                have hkm1 : (k1 : Int) < (m : Int) := by omega
                have hkd2 : decide (0 < k) = true := decide_eq_true (by omega)
                have hkd3 : 0 < k := by omega
                clear hxp
                by_cases c5 : f < tp
                · have d5 : decide (f < tp) = true := decide_eq_true c5
                  have HF : Hid (wholeB L p = false) := HNO.out fun h => by have g := (h.prev (by omega)).1; rw [HX.out, show k - 1 = k1 by omega, HXP.out] at g; simp only [] at g; omega
                  have HBT2 := hide (fun w' => (HBT.out w').mono fun _ _ h => (⟨h.1, h.2.symm⟩ : _ ∧ _))
                  have hs1 : IntKind.i64.wrap ((n : Int) - 1) = (n : Int) - 1 := by rw [IntKind.wrap_i64]; omega
                  have hs4 : IntKind.i64.wrap ((k : Int) - 1) = (k1 : Int) := by rw [IntKind.wrap_i64]; omega
                  go_wp2
                  go_quiet ((go_at_call 76; with_reducible exact Calls.quiet_of_same (HBT2.out _)))
                  go_wp2
                  go_quiet (fail)
                  go_wp2
                  go_ret
                  exact ⟨by rw [HF.out]; rfl, (below_drewN (HBAD.out _ _) _)⟩
                · have d5 : decide (f < tp) = false := decide_eq_false c5
                  by_cases c6 : tp = f
                  · have d6 : (tp == f) = true := by simp [c6]
                    by_cases c7 : jp = (i : Int)
                    · have d7 : (jp == (i : Int)) = true := by simp [c7]
                      have HF : Hid (wholeB L p = false) := HNO.out fun h => by have g := (h.prev (by omega)).2; rw [HX.out, show k - 1 = k1 by omega, HXP.out] at g; exact g c6 c7
                      clear c6 c7
                      have HBT2 := hide (fun w' => (HBT.out w').mono fun _ _ h => (⟨h.1, h.2.symm⟩ : _ ∧ _))
                      have hs1 : IntKind.i64.wrap ((n : Int) - 1) = (n : Int) - 1 := by rw [IntKind.wrap_i64]; omega
                      have hs4 : IntKind.i64.wrap ((k : Int) - 1) = (k1 : Int) := by rw [IntKind.wrap_i64]; omega
                      go_wp2
                      go_quiet ((go_at_call 76; with_reducible exact Calls.quiet_of_same (HBT2.out _)))
                      go_wp2
                      go_quiet (fail)
                      go_wp2
                      go_ret
                      exact ⟨by rw [HF.out]; rfl, (below_drewN (HBAD.out _ _) _)⟩
                    · have d7 : (jp == (i : Int)) = false := by simp; omega
                      have HOKK : Hid (OkPc L p k) := ⟨by rw [HX.out]; exact Int.natCast_nonneg i, by rw [HX.out, HN.out]; exact hin, by rw [HX.out]; simp only [Int.toNat_natCast]; rw [HXJ.out]; exact c2, by rw [HX.out]; exact c3, by rw [HX.out]; exact c4, fun _ => by rw [HX.out, show k - 1 = k1 by omega, HXP.out]; exact ⟨by simp only []; omega, fun _ => c7⟩⟩
                      obtain ⟨dn, hdn⟩ : ∃ dn, (doneTo n p k).getD i 0 = dn := ⟨_, rfl⟩
                      have hdb := HBD.out k HK.out i hi
                      rw [hdn] at hdb
                      obtain ⟨hdb0, hdb1⟩ := hdb
                      have hcr : wr.cell? ⟨w.heap.size, i, none⟩ = some (.int .i64 dn) := by rw [← hdn]; exact HR.out.cell (by omega)
                      have hfz := HR.out.frozen i
                      have HDN := hide hdn
                      clear hdn
                      clear c6 c7
                      have HBT2 := hide (fun w' => (HBT.out w').mono fun _ _ h => (⟨h.1, h.2.symm⟩ : _ ∧ _))
                      have hs1 : IntKind.i64.wrap ((n : Int) - 1) = (n : Int) - 1 := by rw [IntKind.wrap_i64]; omega
                      have hs4 : IntKind.i64.wrap ((k : Int) - 1) = (k1 : Int) := by rw [IntKind.wrap_i64]; omega
                      have hs2 : IntKind.i64.wrap (t - f) = t - f := by rw [IntKind.wrap_i64]; omega
                      have hs5 : IntKind.i64.wrap (dn + (t - f)) = dn + (t - f) := by rw [IntKind.wrap_i64]; omega
                      go_wp2
                      go_quiet ((go_at_call 76; with_reducible exact Calls.quiet_of_same (HBT2.out _)))
                      go_wp2
                      go_quiet (fail)
                      go_wp2
                      go_region
                      go_wp2
                      clear hs2 hs5 hs1 hs4
                      go_roundw
                      case rel =>
                        refine ⟨k + 1, by omega, by go_num, fun j2 hj2 => ?_, hide ((((HR.out.alloc _).of_block (w' := (wr.alloc _).drewN _) rfl).set i _).congr fun a ha => ?_), (HBAD.out _ _).setCell (Nat.le_refl _) _⟩
                        · by_cases e : j2 = k
                          · subst e; exact HOKK.out
                          · exact HK.out j2 (by omega)
                        · rw [doneTo, HX.out]
                          simp only [Int.toNat_natCast]
                          show (if a = i then Value.int .i64 (dn + (t - f)) else Value.int .i64 ((doneTo n p (k)).getD a 0)) = _
                          rw [getD_set_i _ _ _ _ _ (by rw [doneTo_len]; exact hi), HDN.out]
                          by_cases e : a = i
                          · rw [if_pos e, if_pos e]
                          · rw [if_neg e, if_neg e]
                      case measure => simp [intOf] <;> omega
                  · have d6 : (tp == f) = false := by simp; omega
                    have HOKK : Hid (OkPc L p k) := ⟨by rw [HX.out]; exact Int.natCast_nonneg i, by rw [HX.out, HN.out]; exact hin, by rw [HX.out]; simp only [Int.toNat_natCast]; rw [HXJ.out]; exact c2, by rw [HX.out]; exact c3, by rw [HX.out]; exact c4, fun _ => by rw [HX.out, show k - 1 = k1 by omega, HXP.out]; exact ⟨by simp only []; omega, fun e => absurd e c6⟩⟩
                    obtain ⟨dn, hdn⟩ : ∃ dn, (doneTo n p k).getD i 0 = dn := ⟨_, rfl⟩
                    have hdb := HBD.out k HK.out i hi
                    rw [hdn] at hdb
                    obtain ⟨hdb0, hdb1⟩ := hdb
                    have hcr : wr.cell? ⟨w.heap.size, i, none⟩ = some (.int .i64 dn) := by rw [← hdn]; exact HR.out.cell (by omega)
                    have hfz := HR.out.frozen i
                    have HDN := hide hdn
                    clear hdn
                    have HBT2 := hide (fun w' => (HBT.out w').mono fun _ _ h => (⟨h.1, h.2.symm⟩ : _ ∧ _))
                    have hs1 : IntKind.i64.wrap ((n : Int) - 1) = (n : Int) - 1 := by rw [IntKind.wrap_i64]; omega
                    have hs4 : IntKind.i64.wrap ((k : Int) - 1) = (k1 : Int) := by rw [IntKind.wrap_i64]; omega
                    have hs2 : IntKind.i64.wrap (t - f) = t - f := by rw [IntKind.wrap_i64]; omega
                    have hs5 : IntKind.i64.wrap (dn + (t - f)) = dn + (t - f) := by rw [IntKind.wrap_i64]; omega
                    go_wp2
                    go_quiet ((go_at_call 76; with_reducible exact Calls.quiet_of_same (HBT2.out _)))
                    go_wp2
                    go_quiet (fail)
                    go_wp2
                    go_region
                    go_wp2
                    clear hs2 hs5 hs1 hs4
                    go_roundw
                    case rel =>
                      refine ⟨k + 1, by omega, by go_num, fun j2 hj2 => ?_, hide ((((HR.out.alloc _).of_block (w' := (wr.alloc _).drewN _) rfl).set i _).congr fun a ha => ?_), (HBAD.out _ _).setCell (Nat.le_refl _) _⟩
                      · by_cases e : j2 = k
                        · subst e; exact HOKK.out
                        · exact HK.out j2 (by omega)
                      · rw [doneTo, HX.out]
                        simp only [Int.toNat_natCast]
                        show (if a = i then Value.int .i64 (dn + (t - f)) else Value.int .i64 ((doneTo n p (k)).getD a 0)) = _
                        rw [getD_set_i _ _ _ _ _ (by rw [doneTo_len]; exact hi), HDN.out]
                        by_cases e : a = i
                        · rw [if_pos e, if_pos e]
                        · rw [if_neg e, if_neg e]
                    case measure => simp [intOf] <;> omega
            · have dc4 : decide (1000 < t) = true := decide_eq_true (by omega)
              have HF : Hid (wholeB L p = false) := HNO.out fun h => by have g := h.le; rw [HX.out] at g; simp only [] at g; omega
              have HBT2 := hide (fun w' => (HBT.out w').mono fun _ _ h => (⟨h.1, h.2.symm⟩ : _ ∧ _))
              have hs1 : IntKind.i64.wrap ((n : Int) - 1) = (n : Int) - 1 := by rw [IntKind.wrap_i64]; omega
              go_wp2
              go_quiet ((go_at_call 76; with_reducible exact Calls.quiet_of_same (HBT2.out _)))
              go_wp2
              go_ret
              exact ⟨by rw [HF.out]; rfl, HBAD.out _ _⟩
          · have dc3 : decide (t ≤ f) = true := decide_eq_true (by omega)
            have HF : Hid (wholeB L p = false) := HNO.out fun h => by have g := h.lt; rw [HX.out] at g; simp only [] at g; omega
            have HBT2 := hide (fun w' => (HBT.out w').mono fun _ _ h => (⟨h.1, h.2.symm⟩ : _ ∧ _))
            have hs1 : IntKind.i64.wrap ((n : Int) - 1) = (n : Int) - 1 := by rw [IntKind.wrap_i64]; omega
            go_wp2
            go_quiet ((go_at_call 76; with_reducible exact Calls.quiet_of_same (HBT2.out _)))
            go_wp2
            go_ret
            exact ⟨by rw [HF.out]; rfl, HBAD.out _ _⟩
        · have dc2 : decide (f < r) = true := decide_eq_true (by omega)
          have HF : Hid (wholeB L p = false) := HNO.out fun h => by have g := h.rel; rw [HX.out] at g; simp only [Int.toNat_natCast] at g; rw [HXJ.out] at g; simp only [] at g; omega
          have HBT2 := hide (fun w' => (HBT.out w').mono fun _ _ h => (⟨h.1, h.2.symm⟩ : _ ∧ _))
          have hs1 : IntKind.i64.wrap ((n : Int) - 1) = (n : Int) - 1 := by rw [IntKind.wrap_i64]; omega
          go_wp2
          go_quiet ((go_at_call 76; with_reducible exact Calls.quiet_of_same (HBT2.out _)))
          go_wp2
          go_ret
          exact ⟨by rw [HF.out]; rfl, HBAD.out _ _⟩
      · have HBT := hide (fun w' => between_any j 0 ((n : Int) - 1) false w' (decide_eq_false c1).symm)
        have HF : Hid (wholeB L p = false) := HNO.out fun h => by have g := h.ja; have g2 := h.jb; rw [HX.out] at g g2; rw [HN.out] at g2; simp only [] at g g2; omega
        have HBT2 := hide (fun w' => (HBT.out w').mono fun _ _ h => (⟨h.1, h.2.symm⟩ : _ ∧ _))
        have hs1 : IntKind.i64.wrap ((n : Int) - 1) = (n : Int) - 1 := by rw [IntKind.wrap_i64]; omega
        go_wp2
        go_quiet ((go_at_call 76; with_reducible exact Calls.quiet_of_same (HBT2.out _)))
        go_wp2
        go_ret
        exact ⟨by rw [HF.out]; rfl, HBAD.out _ _⟩
    · obtain rfl : m = k := by omega
      obtain ⟨wq, rfl⟩ : ∃ wq : World, wq = wr := ⟨_, rfl⟩
      clear hb
      go_wp2
      go_loopw [100] (fun v wr => ∃ i : Nat, i ≤ n ∧ v = .int .i64 i ∧ Hid (∀ a, a < i → (doneTo n p m).getD a 0 = (L.getD a j0).t) ∧ Below wq.heap.size wq wr) (fun v _ => n - (intOf v).toNat)
      case atStart => exact ⟨0, Nat.zero_le _, rfl, fun j hj => absurd hj (by omega), Below.refl _ _⟩
      case round =>
        obtain ⟨i, hi, rfl, HD, hb⟩ := hrel
        have HBQ := hide (HB.out.trans (hb.mono HB.out.size))
        by_cases hlt : i < n
        · obtain ⟨bj, oj, t1, r, d, u, rfl, hbj, hj0, hj1, hj2, hj3, hxj⟩ := (HA.out.below HBQ.out).at_ (k := i) (by rw [HN.out]; exact hlt)
          have hin : (i : Int) < (n : Int) := by omega
          have hi8 : (i : Int) < 8 := by omega
          obtain ⟨dn, hdn⟩ : ∃ dn, (doneTo n p m).getD i 0 = dn := ⟨_, rfl⟩
          have hcr : wr.cell? ⟨w.heap.size, i, none⟩ = some (.int .i64 dn) := by rw [← hdn]; exact (hb.cell (p := ⟨w.heap.size, i, none⟩) HR.out.lt).trans (HR.out.cell (by omega))
          have hs3 : w.heap.size < wr.heap.size := Nat.lt_of_lt_of_le HR.out.lt hb.size
          have HBA : Hid (∀ o, Below wq.heap.size wq (wr.alloc o)) := fun o => hb.alloc hb.size _
          have HX := hide hxj.out
          have HDN := hide hdn
          clear hxj hdn hb
          by_cases e : dn = t1
          · have d1 : (dn != t1) = false := by simp [e]
            have HDE : Hid ((doneTo n p m).getD i 0 = (L.getD i j0).t) := by rw [HDN.out, HX.out]; exact e
            clear e
            go_wp2
            go_quiet (fail)
            go_wp2
            go_roundw
            case rel =>
              refine ⟨i + 1, by omega, by go_num, fun a ha => ?_, below_drewN (HBA.out _) _⟩
              by_cases e : a = i
              · subst e; exact HDE.out
              · exact HD.out a (by omega)
            case measure => simp [intOf] <;> omega
          · have d1 : (dn != t1) = true := by simpa using e
            have HF : Hid (wholeB L p = false) := wholeB_false fun hw => by
              have g := hw.all i (by rw [HN.out]; exact hlt)
              rw [HN.out, HM.out, HDN.out, HX.out] at g
              exact e g
            have HBZ : Hid (∀ o, Below w.heap.size w (wr.alloc o)) := fun o => HB.out.trans ((HBA.out o).mono HB.out.size)
            clear e
            go_wp2
            go_quiet (fail)
            go_wp2
            go_ret
            exact ⟨by rw [HF.out]; rfl, (below_drewN (HBZ.out _) _)⟩
        · obtain rfl : n = i := by omega
          have HWP : Hid (WholeP L p) := ⟨fun k hk => HK.out k (by rw [← HM.out]; exact hk), fun i hi => by rw [HN.out, HM.out]; exact HD.out i (by rw [← HN.out]; exact hi)⟩
          have HT := hide (wholeB_true HWP.out)
          go_wp2
          go_ret
          exact ⟨by rw [HT.out]; rfl, HBQ.out⟩
set_option maxHeartbeats 800000 in
theorem check_arg (A : Option Addr) (n c : Nat) (L : List J4) (P : Option Addr) (m pc : Nat) (p : List P3) (w : World) (hn : L.length = n) (hlen : n ≤ 9223372036854775807) (hA : JobsA w w.heap.size A L) (hm : p.length = m) (hmm : m ≤ 9223372036854775807) (hP : PcsA w w.heap.size P p) (hv : jobsB L = false) :
    Calls Try.prog 32 #[.slice A n c, .slice P m pc] w fun e w' => e = .returned (.tuple #[.slice none 0 0, .bool false, .int .i64 2]) ∧ Below w.heap.size w w' := by
  have HV := hide (jvalid_any A n c L w hn hlen hA)
  rw [hv] at HV
  clear hv hA hn hm hP
  go_enter Try.func32, Try.ntmps32
  go_wp2_with (first
    | (go_at_call 54; refine (HV.out).mono ?_; rintro e w1 ⟨rfl, hb1⟩; have HB1 := hide hb1; clear hb1))
  exact bodyPost_ret (v := .tuple #[.slice none 0 0, .bool false, .int .i64 2]) (by simp [results, Try.results32, go_sem]) rfl ⟨rfl, HB1.out⟩
set_option maxHeartbeats 800000 in
theorem check_no (A : Option Addr) (n c : Nat) (L : List J4) (P : Option Addr) (m pc : Nat) (p : List P3) (w : World) (hn : L.length = n) (hlen : n ≤ 9223372036854775807) (hA : JobsA w w.heap.size A L) (hm : p.length = m) (hmm : m ≤ 9223372036854775807) (hP : PcsA w w.heap.size P p) (hv : jobsB L = true) (hw : wholeB L p = false) :
    Calls Try.prog 32 #[.slice A n c, .slice P m pc] w fun e w' => e = .returned (.tuple #[.slice none 0 0, .bool false, .int .i64 0]) ∧ Below w.heap.size w w' := by
  have HV := hide (jvalid_any A n c L w hn hlen hA)
  rw [hv] at HV
  have HW := hide (fun w1 (hb : Below w.heap.size w w1) => whole_any A n c L P m pc p w1 hn (jobsB_iff.1 hv) hm hmm (hA.next hb) (hP.next hb))
  rw [hw] at HW
  clear hv hA hn hm hP hw
  go_enter Try.func32, Try.ntmps32
  go_wp2_with (first
    | (go_at_call 54; refine (HV.out).mono ?_; rintro e w1 ⟨rfl, hb1⟩; have HB1 := hide hb1; clear hb1)
    | (go_at_call 64; refine (HW.out _ HB1.out).mono ?_; rintro e w2 ⟨rfl, hb2⟩; have HB2 := hide (HB1.out.trans (hb2.mono HB1.out.size)); clear hb2))
  exact bodyPost_ret (v := .tuple #[.slice none 0 0, .bool false, .int .i64 0]) (by simp [results, Try.results32, go_sem]) rfl ⟨rfl, HB2.out⟩
set_option maxHeartbeats 800000 in
theorem check_yes (A : Option Addr) (n c : Nat) (L : List J4) (P : Option Addr) (m pc : Nat) (p : List P3) (w : World) (hn : L.length = n) (hlen : n ≤ 9223372036854775807) (hA : JobsA w w.heap.size A L) (hm : p.length = m) (hmm : m ≤ 9223372036854775807) (hP : PcsA w w.heap.size P p) (hv : jobsB L = true) (hw : wholeB L p = true) :
    Calls Try.prog 32 #[.slice A n c, .slice P m pc] w fun e w' => ∃ X c', e = .returned (.tuple #[.slice X n c', .bool true, .int .i64 0]) ∧ n ≤ c' ∧ IntsA w' w'.heap.size X (finN n p) ∧ Below w.heap.size w w' := by
  have hL := jobsB_iff.1 hv
  have h8 : n ≤ 8 := by rw [← hn]; exact hL.le
  have HV := hide (jvalid_any A n c L w hn hlen hA)
  rw [hv] at HV
  have HW := hide (fun w1 (hb : Below w.heap.size w w1) => whole_any A n c L P m pc p w1 hn hL hm hmm (hA.next hb) (hP.next hb))
  rw [hw] at HW
  have hwt := whole_to hL (wholeB_iff.1 hw)
  have HE := hide (fun w1 (hb : Below w.heap.size w w1) => finished_any A n c P m pc p w1 h8 hm hmm (fun q hq => ⟨(hwt.2 q hq).1, by have := (hwt.2 q hq).2.1; rw [hn] at this; exact this⟩) (hP.next hb))
  clear hv hA hn hm hP hw hwt hL
  go_enter Try.func32, Try.ntmps32
  go_wp2_with (first
    | (go_at_call 54; refine (HV.out).mono ?_; rintro e w1 ⟨rfl, hb1⟩; have HB1 := hide hb1; clear hb1)
    | (go_at_call 64; refine (HW.out _ HB1.out).mono ?_; rintro e w2 ⟨rfl, hb2⟩; have HB2 := hide (HB1.out.trans (hb2.mono HB1.out.size)); clear hb2)
    | (go_at_call 56; refine (HE.out _ HB2.out).mono ?_; rintro e w3 ⟨X, c', rfl, hc', hI, hb3⟩; have HI := hide hI; have HB3 := hide (HB2.out.trans (hb3.mono HB2.out.size)); clear hI hb3))
  exact bodyPost_ret (v := .tuple #[.slice X n c', .bool true, .int .i64 0]) (by simp [results, Try.results32, go_sem]) rfl ⟨X, c', rfl, hc', HI.out, HB3.out⟩
end Go.Proofs.Ytiadineakhcclaa
