/-
  DatesSlower, part 4 of 4: the texts DOf, DRefValid, LawDatesSlower, DOpen, joined.
-/
import Derived.Test.YtiadineakhcclaaMrgDatesSlower3
import Derived.Deep.Slices

/-
  The statements' own conversions: Of, own, pieces.
-/
namespace Go.Proofs.Ytiadineakhcclaa
open Go.RowKit Go.Deep
set_option linter.unusedVariables false
set_option linter.unusedSimpArgs false

theorem info_of : (Try.prog.info? 48).map (fun i => (i.zero, i.size, i.bytes)) = some (some (.agg #[.int .i64 0, .int .i64 0, .int .i64 0, .int .i64 0]), 4, 32) := by kernel_rfl
set_option maxRecDepth 100000 in
set_option maxHeartbeats 1600000 in
theorem of_any (A : Option Addr) (n c : Nat) (L : List J4) (w : World) (hn : L.length = n) (hlen : n ≤ 9223372036854775807) (hA : JobsA w w.heap.size A L) :
    Calls Try.prog 18 #[.slice A n c] w fun e w' => ∃ X k c', e = .returned (.slice X k c') ∧ (L.take 10).length = k ∧ k ≤ c' ∧ w'.ownsRow w.heap.size 48 4 (.slice X k c') k (jcells (L.take 10)) ∧ Below w.heap.size w w' := by
  have HN := hide hn
  have HA := hide hA
  clear hn hA
  go_enter Try.func18, Try.ntmps18
  go_wp2
  go_loopw [3, 8] (fun v i wr => ∃ (k j c' : Nat) (X : Option Addr), k ≤ n ∧ i = .int .i64 k ∧ v = .slice X j c' ∧ j ≤ c' ∧ j ≤ k ∧ j ≤ 10 ∧ Hid (((L.take 10).take k).length = j) ∧ Hid (wr.ownsRow w.heap.size 48 4 (.slice X j c') j (jcells ((L.take 10).take k))) ∧ Below w.heap.size w wr) (fun _ i _ => n - (intOf i).toNat)
  case atStart => exact ⟨0, 0, 0, none, Nat.zero_le _, rfl, rfl, Nat.le_refl _, Nat.le_refl _, by omega, hide (by simp), hide (by rw [List.take_zero]; exact World.ownsRow_nil _ _ _ _), Below.refl _ _⟩
  case round =>
    obtain ⟨k, j, c', X, hk, rfl, rfl, hjc, hjk, hj9, HL, HOW, hbel⟩ := hrel
    have HB := hide hbel
    by_cases hlt : k < n
    · obtain ⟨bj, oj, t, r, d, u, rfl, hbj, hc0, hc1, hc2, hc3,hx⟩ := (HA.out.below hbel).at_ (k := k) (by rw [HN.out]; exact hlt)
      have HX := hide hx.out
      have hkn : (k : Int) < (n : Int) := by omega
      have HBA : Hid (∀ o, Below w.heap.size w (wr.alloc o)) := fun o => HB.out.alloc HB.out.size _
      clear hbel hx
      by_cases h10 : k < 10
      · have h10' : (k : Int) < 10 := by omega
        have hj10 : j < 10 := by have := HL.out; rw [List.length_take, List.length_take, HN.out] at this; omega
        have hone : ∀ y9 ∈ ([.int .i64 t, .int .i64 r, .int .i64 d, .int .i64 u] : List Value), y9.oneCell' = true := by intro y9 hu; simp at hu; rcases hu with rfl | rfl | rfl | rfl <;> rfl
        have HST : Hid ((L.take 10).take (k + 1) = ((L.take 10).take k) ++ [⟨t, r, d, u⟩]) := by
          rw [List.take_succ_eq_append_getElem (by rw [List.length_take, HN.out]; omega)]
          congr 1
          rw [List.getElem_take, getD_cons_of (d := j0) (by rw [HN.out]; omega), HX.out]
        go_wp2_with (at_builtin; refine wpList_appS (w0 := wr.alloc (.cells #[.int .i64 t, .int .i64 r, .int .i64 d, .int .i64 u] 43)) _ _ 27 48 (.agg #[.int .i64 0, .int .i64 0, .int .i64 0, .int .i64 0]) 4 32 rfl rfl Try.underlying27 info_of rfl (by decide) w.heap.size (.slice X j c') j (jcells ((L.take 10).take k)) [.int .i64 t, .int .i64 r, .int .i64 d, .int .i64 u] rfl rfl (by simp [Act.eval]) rfl ⟨_, rfl⟩ (HOW.out.alloc _) hone (by omega) (by omega) (HBA.out _).size ?_; intro ga cg w7 hown1 hd1 hd2 hg1 hgl2 hgrow; have HOW7 := hide hown1; have HG := hide hgrow; clear hown1 hgrow)
        go_roundw
        case rel =>
          refine ⟨k + 1, j + 1, cg, some ⟨ga, 0, none⟩, by omega, by go_num, rfl, hd1, by omega, by omega, hide ?_, hide ?_, (HBA.out _).grown HG.out (HBA.out _).size (fun q hq => (own_ltS HOW.out q hq).1)⟩
          · rw [HST.out, List.length_append, HL.out]; rfl
          · rw [HST.out, jcells_snoc]; exact HOW7.out
        case measure => simp [intOf] <;> omega
      · have h10' : ¬ (k : Int) < 10 := by omega
        have HST : Hid ((L.take 10).take (k + 1) = (L.take 10).take k) := by
          rw [List.take_of_length_le (l := L.take 10) (by rw [List.length_take]; omega), List.take_of_length_le (l := L.take 10) (by rw [List.length_take]; omega)]; exact hide rfl
        have hd : decide ((k : Int) < 10) = false := decide_eq_false h10'
        go_wp2
        go_roundw
        case rel => exact ⟨k + 1, j, c', X, by omega, by go_num, rfl, hjc, by omega, hj9, hide (by rw [HST.out]; exact HL.out), hide (by rw [HST.out]; exact HOW.out.alloc _), HBA.out _⟩
        case measure => simp [intOf] <;> omega
    · obtain rfl : n = k := by omega
      have HALL : Hid ((L.take 10).take n = L.take 10) := List.take_of_length_le (by rw [List.length_take, HN.out]; omega)
      rw [HALL.out] at HL HOW
      go_wp2
      go_ret
      exact ⟨X, j, c', rfl, HL.out, hjc, HOW.out, HB.out⟩
theorem info_ownp : (Try.prog.info? 36).map (fun i => (i.zero, i.size, i.bytes)) = some (some (.agg #[.int .i64 0, .int .i64 0, .int .i64 0]), 3, 24) := by kernel_rfl
set_option maxRecDepth 100000 in
set_option maxHeartbeats 1600000 in
theorem ownp_any (A : Option Addr) (n c : Nat) (L : List P3) (w : World) (hn : L.length = n) (hlen : n ≤ 1000) (hA : PcsA w w.heap.size A L) :
    Calls Try.prog 23 #[.slice A n c] w fun e w' => ∃ X k c', e = .returned (.slice X k c') ∧ L.length = k ∧ k ≤ c' ∧ w'.ownsRow w.heap.size 36 3 (.slice X k c') k (pcells L) ∧ Below w.heap.size w w' := by
  have HN := hide hn
  have HA := hide hA
  clear hn hA
  go_enter Try.func23, Try.ntmps23
  go_wp2
  go_loopw [3, 8] (fun v i wr => ∃ (k j c' : Nat) (X : Option Addr), k ≤ n ∧ i = .int .i64 k ∧ v = .slice X j c' ∧ j ≤ c' ∧ j ≤ k ∧ Hid ((L.take k).length = j) ∧ Hid (wr.ownsRow w.heap.size 36 3 (.slice X j c') j (pcells (L.take k))) ∧ Below w.heap.size w wr) (fun _ i _ => n - (intOf i).toNat)
  case atStart => exact ⟨0, 0, 0, none, Nat.zero_le _, rfl, rfl, Nat.le_refl _, Nat.le_refl _, hide (by simp), hide (by rw [List.take_zero]; exact World.ownsRow_nil _ _ _ _), Below.refl _ _⟩
  case round =>
    obtain ⟨k, j, c', X, hk, rfl, rfl, hjc, hjk, HL, HOW, hbel⟩ := hrel
    have HB := hide hbel
    by_cases hlt : k < n
    · obtain ⟨bj, oj, pj, pf, pt, rfl, hbj, hc0, hc1, hc2,hx⟩ := (HA.out.below hbel).at_ (k := k) (by rw [HN.out]; exact hlt)
      have HX := hide hx.out
      have hkn : (k : Int) < (n : Int) := by omega
      have HBA : Hid (∀ o, Below w.heap.size w (wr.alloc o)) := fun o => HB.out.alloc HB.out.size _
      clear hbel hx
      have hone : ∀ y9 ∈ ([.int .i64 pj, .int .i64 pf, .int .i64 pt] : List Value), y9.oneCell' = true := by intro y9 hu; simp at hu; rcases hu with rfl | rfl | rfl <;> rfl
      have HST : Hid (L.take (k + 1) = (L.take k) ++ [⟨pj, pf, pt⟩]) := by
        rw [List.take_succ_eq_append_getElem (by rw [HN.out]; omega)]
        congr 1
        rw [getD_cons_of (d := p0) (by rw [HN.out]; omega), HX.out]
      go_wp2_with (at_builtin; refine wpList_appS (w0 := wr.alloc (.cells #[.int .i64 pj, .int .i64 pf, .int .i64 pt] 44)) _ _ 31 36 (.agg #[.int .i64 0, .int .i64 0, .int .i64 0]) 3 24 rfl rfl Try.underlying31 info_ownp rfl (by decide) w.heap.size (.slice X j c') j (pcells (L.take k)) [.int .i64 pj, .int .i64 pf, .int .i64 pt] rfl rfl (by simp [Act.eval]) rfl ⟨_, rfl⟩ (HOW.out.alloc _) hone (by omega) (by omega) (HBA.out _).size ?_; intro ga cg w7 hown1 hd1 hd2 hg1 hgl2 hgrow; have HOW7 := hide hown1; have HG := hide hgrow; clear hown1 hgrow)
      go_roundw
      case rel =>
        refine ⟨k + 1, j + 1, cg, some ⟨ga, 0, none⟩, by omega, by go_num, rfl, hd1, by omega, hide ?_, hide ?_, (HBA.out _).grown HG.out (HBA.out _).size (fun q hq => (own_ltS HOW.out q hq).1)⟩
        · rw [HST.out, List.length_append, HL.out]; rfl
        · rw [HST.out, pcells_snoc]; exact HOW7.out
      case measure => simp [intOf] <;> omega
    · obtain rfl : n = k := by omega
      have HALL : Hid (L.take n = L) := List.take_of_length_le (by rw [HN.out]; exact Nat.le_refl _)
      rw [HALL.out] at HL HOW
      go_wp2
      go_ret
      exact ⟨X, j, c', rfl, HL.out, hjc, HOW.out, HB.out⟩
theorem info_pieces : (Try.prog.info? 44).map (fun i => (i.zero, i.size, i.bytes)) = some (some (.agg #[.int .i64 0, .int .i64 0, .int .i64 0]), 3, 24) := by kernel_rfl
set_option maxRecDepth 100000 in
set_option maxHeartbeats 1600000 in
theorem pieces_any (A : Option Addr) (n c : Nat) (L : List P3) (w : World) (hn : L.length = n) (hlen : n ≤ 9223372036854775807) (hA : PcsA w w.heap.size A L) :
    Calls Try.prog 33 #[.slice A n c] w fun e w' => ∃ X k c', e = .returned (.slice X k c') ∧ (L.take 200).length = k ∧ k ≤ c' ∧ w'.ownsRow w.heap.size 44 3 (.slice X k c') k (pcells (L.take 200)) ∧ Below w.heap.size w w' := by
  have HN := hide hn
  have HA := hide hA
  clear hn hA
  go_enter Try.func33, Try.ntmps33
  go_wp2
  go_loopw [3, 8] (fun v i wr => ∃ (k j c' : Nat) (X : Option Addr), k ≤ n ∧ i = .int .i64 k ∧ v = .slice X j c' ∧ j ≤ c' ∧ j ≤ k ∧ j ≤ 200 ∧ Hid (((L.take 200).take k).length = j) ∧ Hid (wr.ownsRow w.heap.size 44 3 (.slice X j c') j (pcells ((L.take 200).take k))) ∧ Below w.heap.size w wr) (fun _ i _ => n - (intOf i).toNat)
  case atStart => exact ⟨0, 0, 0, none, Nat.zero_le _, rfl, rfl, Nat.le_refl _, Nat.le_refl _, by omega, hide (by simp), hide (by rw [List.take_zero]; exact World.ownsRow_nil _ _ _ _), Below.refl _ _⟩
  case round =>
    obtain ⟨k, j, c', X, hk, rfl, rfl, hjc, hjk, hj9, HL, HOW, hbel⟩ := hrel
    have HB := hide hbel
    by_cases hlt : k < n
    · obtain ⟨bj, oj, pj, pf, pt, rfl, hbj, hc0, hc1, hc2,hx⟩ := (HA.out.below hbel).at_ (k := k) (by rw [HN.out]; exact hlt)
      have HX := hide hx.out
      have hkn : (k : Int) < (n : Int) := by omega
      have HBA : Hid (∀ o, Below w.heap.size w (wr.alloc o)) := fun o => HB.out.alloc HB.out.size _
      clear hbel hx
      by_cases h10 : k < 200
      · have h10' : (k : Int) < 200 := by omega
        have hj10 : j < 200 := by have := HL.out; rw [List.length_take, List.length_take, HN.out] at this; omega
        have hone : ∀ y9 ∈ ([.int .i64 pj, .int .i64 pf, .int .i64 pt] : List Value), y9.oneCell' = true := by intro y9 hu; simp at hu; rcases hu with rfl | rfl | rfl <;> rfl
        have HST : Hid ((L.take 200).take (k + 1) = ((L.take 200).take k) ++ [⟨pj, pf, pt⟩]) := by
          rw [List.take_succ_eq_append_getElem (by rw [List.length_take, HN.out]; omega)]
          congr 1
          rw [List.getElem_take, getD_cons_of (d := p0) (by rw [HN.out]; omega), HX.out]
        go_wp2_with (at_builtin; refine wpList_appS (w0 := wr.alloc (.cells #[.int .i64 pj, .int .i64 pf, .int .i64 pt] 36)) _ _ 23 44 (.agg #[.int .i64 0, .int .i64 0, .int .i64 0]) 3 24 rfl rfl Try.underlying23 info_pieces rfl (by decide) w.heap.size (.slice X j c') j (pcells ((L.take 200).take k)) [.int .i64 pj, .int .i64 pf, .int .i64 pt] rfl rfl (by simp [Act.eval]) rfl ⟨_, rfl⟩ (HOW.out.alloc _) hone (by omega) (by omega) (HBA.out _).size ?_; intro ga cg w7 hown1 hd1 hd2 hg1 hgl2 hgrow; have HOW7 := hide hown1; have HG := hide hgrow; clear hown1 hgrow)
        go_roundw
        case rel =>
          refine ⟨k + 1, j + 1, cg, some ⟨ga, 0, none⟩, by omega, by go_num, rfl, hd1, by omega, by omega, hide ?_, hide ?_, (HBA.out _).grown HG.out (HBA.out _).size (fun q hq => (own_ltS HOW.out q hq).1)⟩
          · rw [HST.out, List.length_append, HL.out]; rfl
          · rw [HST.out, pcells_snoc]; exact HOW7.out
        case measure => simp [intOf] <;> omega
      · have h10' : ¬ (k : Int) < 200 := by omega
        have HST : Hid ((L.take 200).take (k + 1) = (L.take 200).take k) := by
          rw [List.take_of_length_le (l := L.take 200) (by rw [List.length_take]; omega), List.take_of_length_le (l := L.take 200) (by rw [List.length_take]; omega)]; exact hide rfl
        have hd : decide ((k : Int) < 200) = false := decide_eq_false h10'
        go_wp2
        go_roundw
        case rel => exact ⟨k + 1, j, c', X, by omega, by go_num, rfl, hjc, by omega, hj9, hide (by rw [HST.out]; exact HL.out), hide (by rw [HST.out]; exact HOW.out.alloc _), HBA.out _⟩
        case measure => simp [intOf] <;> omega
    · obtain rfl : n = k := by omega
      have HALL : Hid ((L.take 200).take n = L.take 200) := List.take_of_length_le (by rw [List.length_take, HN.out]; omega)
      rw [HALL.out] at HL HOW
      go_wp2
      go_ret
      exact ⟨X, j, c', rfl, HL.out, hjc, HOW.out, HB.out⟩
end Go.Proofs.Ytiadineakhcclaa

/-
  The reference's Valid.
-/
namespace Go.Proofs.Ytiadineakhcclaa
open Go.RowKit Go.Deep
set_option linter.unusedVariables false
set_option linter.unusedSimpArgs false

set_option maxRecDepth 100000 in
set_option maxHeartbeats 3200000 in
theorem drefvalid_any (A : Option Addr) (n c : Nat) (L : List J4) (w : World) (hn : L.length = n) (hlen : n ≤ 9223372036854775807) (hA : JobsA w w.heap.size A L) :
    Calls Try.prog 19 #[.slice A n c] w fun e w' => e = .returned (.bool (jobsB L)) ∧ Below w.heap.size w w' := by
  have HN := hide hn
  have HA := hide hA
  clear hn hA
  go_enter Try.func19, Try.ntmps19
  go_wp2
  go_loopw [7] (fun i wr => ∃ k : Nat, k ≤ n ∧ i = .int .i64 k ∧ Hid (∀ j, j < k → jobB (L.getD j j0) = true) ∧ Below w.heap.size w wr) (fun i _ => n - (intOf i).toNat)
  case atStart => exact ⟨0, Nat.zero_le _, rfl, fun j hj => absurd hj (by omega), Below.refl _ _⟩
  case round =>
    obtain ⟨k, hk, rfl, HNO, hb⟩ := hrel
    by_cases hlt : k < n
    · obtain ⟨bj, oj, t, r, d, u, rfl, hbj, hc0, hc1, hc2, hc3, hx⟩ := (HA.out.below hb).at_ (k := k) (by rw [HN.out]; exact hlt)
      have HX := hide hx.out
      have hkn : (k : Int) < (n : Int) := by omega
      have HBA : Hid (∀ o, Below w.heap.size w (wr.alloc o)) := fun o => hb.alloc hb.size _
      clear hb hx
      by_cases c0 : t < 1
      · have d0 : decide (t < 1) = true := decide_eq_true c0
        have HJ : Hid (jobB ⟨t, r, d, u⟩ = false) := decide_eq_false (fun h => by simp only [] at h; omega)
        have HF : Hid (jobsB L = false) := by rw [jobsB, show L.all jobB = false from Classical.byContradiction fun h => by rw [Bool.not_eq_false, List.all_eq_true] at h; have := h _ (getD_mem (l := L) (j := k) (d := j0) (by rw [HN.out]; exact hlt)); rw [HX.out, HJ.out] at this; exact absurd this (by simp), Bool.and_false]; exact hide rfl
        go_wp2
        go_ret
        exact ⟨by rw [HF.out]; rfl, HBA.out _⟩
      · have n0 : 1 ≤ t := by omega
        have d0 : decide (t < 1) = false := decide_eq_false c0
        by_cases c1 : 20 < t
        · have d1 : decide (20 < t) = true := decide_eq_true c1
          have HJ : Hid (jobB ⟨t, r, d, u⟩ = false) := decide_eq_false (fun h => by simp only [] at h; omega)
          have HF : Hid (jobsB L = false) := by rw [jobsB, show L.all jobB = false from Classical.byContradiction fun h => by rw [Bool.not_eq_false, List.all_eq_true] at h; have := h _ (getD_mem (l := L) (j := k) (d := j0) (by rw [HN.out]; exact hlt)); rw [HX.out, HJ.out] at this; exact absurd this (by simp), Bool.and_false]; exact hide rfl
          go_wp2
          go_ret
          exact ⟨by rw [HF.out]; rfl, HBA.out _⟩
        · have n1 : t ≤ 20 := by omega
          have d1 : decide (20 < t) = false := decide_eq_false c1
          by_cases c2 : r < 0
          · have d2 : decide (r < 0) = true := decide_eq_true c2
            have HJ : Hid (jobB ⟨t, r, d, u⟩ = false) := decide_eq_false (fun h => by simp only [] at h; omega)
            have HF : Hid (jobsB L = false) := by rw [jobsB, show L.all jobB = false from Classical.byContradiction fun h => by rw [Bool.not_eq_false, List.all_eq_true] at h; have := h _ (getD_mem (l := L) (j := k) (d := j0) (by rw [HN.out]; exact hlt)); rw [HX.out, HJ.out] at this; exact absurd this (by simp), Bool.and_false]; exact hide rfl
            go_wp2
            go_ret
            exact ⟨by rw [HF.out]; rfl, HBA.out _⟩
          · have n2 : 0 ≤ r := by omega
            have d2 : decide (r < 0) = false := decide_eq_false c2
            by_cases c3 : 100 < r
            · have d3 : decide (100 < r) = true := decide_eq_true c3
              have HJ : Hid (jobB ⟨t, r, d, u⟩ = false) := decide_eq_false (fun h => by simp only [] at h; omega)
              have HF : Hid (jobsB L = false) := by rw [jobsB, show L.all jobB = false from Classical.byContradiction fun h => by rw [Bool.not_eq_false, List.all_eq_true] at h; have := h _ (getD_mem (l := L) (j := k) (d := j0) (by rw [HN.out]; exact hlt)); rw [HX.out, HJ.out] at this; exact absurd this (by simp), Bool.and_false]; exact hide rfl
              go_wp2
              go_ret
              exact ⟨by rw [HF.out]; rfl, HBA.out _⟩
            · have n3 : r ≤ 100 := by omega
              have d3 : decide (100 < r) = false := decide_eq_false c3
              by_cases c4 : d < 0
              · have d4 : decide (d < 0) = true := decide_eq_true c4
                have HJ : Hid (jobB ⟨t, r, d, u⟩ = false) := decide_eq_false (fun h => by simp only [] at h; omega)
                have HF : Hid (jobsB L = false) := by rw [jobsB, show L.all jobB = false from Classical.byContradiction fun h => by rw [Bool.not_eq_false, List.all_eq_true] at h; have := h _ (getD_mem (l := L) (j := k) (d := j0) (by rw [HN.out]; exact hlt)); rw [HX.out, HJ.out] at this; exact absurd this (by simp), Bool.and_false]; exact hide rfl
                go_wp2
                go_ret
                exact ⟨by rw [HF.out]; rfl, HBA.out _⟩
              · have n4 : 0 ≤ d := by omega
                have d4 : decide (d < 0) = false := decide_eq_false c4
                by_cases c5 : 200 < d
                · have d5 : decide (200 < d) = true := decide_eq_true c5
                  have HJ : Hid (jobB ⟨t, r, d, u⟩ = false) := decide_eq_false (fun h => by simp only [] at h; omega)
                  have HF : Hid (jobsB L = false) := by rw [jobsB, show L.all jobB = false from Classical.byContradiction fun h => by rw [Bool.not_eq_false, List.all_eq_true] at h; have := h _ (getD_mem (l := L) (j := k) (d := j0) (by rw [HN.out]; exact hlt)); rw [HX.out, HJ.out] at this; exact absurd this (by simp), Bool.and_false]; exact hide rfl
                  go_wp2
                  go_ret
                  exact ⟨by rw [HF.out]; rfl, HBA.out _⟩
                · have n5 : d ≤ 200 := by omega
                  have d5 : decide (200 < d) = false := decide_eq_false c5
                  by_cases c6 : u < 0
                  · have d6 : decide (u < 0) = true := decide_eq_true c6
                    have HJ : Hid (jobB ⟨t, r, d, u⟩ = false) := decide_eq_false (fun h => by simp only [] at h; omega)
                    have HF : Hid (jobsB L = false) := by rw [jobsB, show L.all jobB = false from Classical.byContradiction fun h => by rw [Bool.not_eq_false, List.all_eq_true] at h; have := h _ (getD_mem (l := L) (j := k) (d := j0) (by rw [HN.out]; exact hlt)); rw [HX.out, HJ.out] at this; exact absurd this (by simp), Bool.and_false]; exact hide rfl
                    go_wp2
                    go_ret
                    exact ⟨by rw [HF.out]; rfl, HBA.out _⟩
                  · have n6 : 0 ≤ u := by omega
                    have d6 : decide (u < 0) = false := decide_eq_false c6
                    by_cases c7 : 20 < u
                    · have d7 : decide (20 < u) = true := decide_eq_true c7
                      have HJ : Hid (jobB ⟨t, r, d, u⟩ = false) := decide_eq_false (fun h => by simp only [] at h; omega)
                      have HF : Hid (jobsB L = false) := by rw [jobsB, show L.all jobB = false from Classical.byContradiction fun h => by rw [Bool.not_eq_false, List.all_eq_true] at h; have := h _ (getD_mem (l := L) (j := k) (d := j0) (by rw [HN.out]; exact hlt)); rw [HX.out, HJ.out] at this; exact absurd this (by simp), Bool.and_false]; exact hide rfl
                      go_wp2
                      go_ret
                      exact ⟨by rw [HF.out]; rfl, HBA.out _⟩
                    · have n7 : u ≤ 20 := by omega
                      have d7 : decide (20 < u) = false := decide_eq_false c7
                      have HJ : Hid (jobB ⟨t, r, d, u⟩ = true) := decide_eq_true (by simp only []; omega)
                      clear n0 n1 n2 n3 n4 n5 n6 n7
                      go_wp2
                      go_roundw
                      case rel =>
                        refine ⟨k + 1, by omega, by go_num, fun j hj => ?_, HBA.out _⟩
                        by_cases e : j = k
                        · subst e; rw [HX.out]; exact HJ.out
                        · exact HNO.out j (by omega)
                      case measure => simp [intOf] <;> omega
    · obtain rfl : n = k := by omega
      have HAL : Hid (L.all jobB = true) := by
        rw [List.all_eq_true]
        intro x hx
        obtain ⟨i, hi, rfl⟩ := List.getElem_of_mem hx
        rw [getD_cons_of (d := j0) hi]
        exact HNO.out i (by rw [← HN.out]; exact hi)
      have HE : Hid (jobsB L = (decide (1 ≤ n) && decide (n ≤ 8))) := by
        rw [jobsB, HAL.out, HN.out, Bool.and_true, Bool.decide_and]; exact hide rfl
      by_cases h1 : 1 ≤ n
      · have d1 : decide ((1 : Int) ≤ (n : Int)) = true := decide_eq_true (by omega)
        by_cases h2 : n ≤ 8
        · have d2 : decide ((n : Int) ≤ 8) = true := decide_eq_true (by omega)
          have HE2 : Hid (jobsB L = true) := by rw [HE.out, decide_eq_true h1, decide_eq_true h2]; exact hide rfl
          go_wp2
          go_ret
          exact ⟨by rw [HE2.out]; rfl, hb⟩
        · have d2 : decide ((n : Int) ≤ 8) = false := decide_eq_false (by omega)
          have HE2 : Hid (jobsB L = false) := by rw [HE.out, decide_eq_false h2, Bool.and_false]; exact hide rfl
          go_wp2
          go_ret
          exact ⟨by rw [HE2.out]; rfl, hb⟩
      · have d1 : decide ((1 : Int) ≤ (n : Int)) = false := decide_eq_false (by omega)
        have HE2 : Hid (jobsB L = false) := by rw [HE.out, decide_eq_false h1, Bool.false_and]; exact hide rfl
        go_wp2
        go_ret
        exact ⟨by rw [HE2.out]; rfl, hb⟩
end Go.Proofs.Ytiadineakhcclaa

/-
  The walk of DatesSlower.
-/
namespace Go.Proofs.Ytiadineakhcclaa
open Go.RowKit Go.Deep
set_option linter.unusedVariables false
set_option linter.unusedSimpArgs false

theorem modUn (x : Int) {q : Nat} (hq : 1 ≤ q) (h5 : q ≤ 100) : ∃ i : Nat, i < q ∧ wrap64 ((IntKind.u64.wrap x).tmod (q : Int)) = (i : Int) := by
  have h0 : 0 ≤ IntKind.u64.wrap x := by
    simp only [IntKind.wrap]
    exact Int.emod_nonneg _ (by decide)
  generalize IntKind.u64.wrap x = y at *
  have h1 := Int.emod_nonneg y (show (q : Int) ≠ 0 by omega)
  have h2 := Int.emod_lt_of_pos y (show (0 : Int) < (q : Int) by omega)
  rw [Int.tmod_eq_emod_of_nonneg h0]
  generalize y % (q : Int) = z at *
  refine ⟨z.toNat, by omega, ?_⟩
  rw [show (z.toNat : Int) = z by omega]
  unfold wrap64; omega
/-- Least without befores. -/
theorem least_nil {n : Nat} {L : List J4} (hn : L.length = n) (hlen : n ≤ 9223372036854775807) (hv : jobsB L = true) {r : Int} (hr : worstF L B0 n 0 = some r) (w : World) (X : Option Addr) (c : Nat) (hX : JobsA w w.heap.size X L) :
    Calls Try.prog 40 #[.slice X n c, .slice none 0 0] w fun e w' => ∃ Z zl zc, e = .returned (.tuple #[.slice Z zl zc, .int .i64 r, .int .i64 0]) ∧ Below w.heap.size w w' := by
  have hwn : worstF L (befB [] n) n 0 = worstF L B0 n 0 := by rw [← hn]; exact worstF_congr (fun i _ => befB_nil _ i) _ _
  refine (least_yes X n c L none 0 0 [] w hn hlen rfl (by omega) hX PrsA.nil_ hv rfl).mono fun e w' ⟨h, hb⟩ => ?_
  rcases h with ⟨h, _⟩ | ⟨r', Z, zc, h1, h2, h3, h4⟩
  · rw [hwn, hr] at h; cases h
  · rw [hwn, hr] at h1; injection h1 with h1; subst h1; exact ⟨Z, n, zc, h2, hb⟩
set_option maxRecDepth 100000 in
set_option maxHeartbeats 6400000 in
theorem datesSlower_any (A : Option Addr) (n c : Nat) (L : List J4) (x : Int) (w : World) (hn : L.length = n) (hlen : n ≤ 9223372036854775807) (hA : JobsA w w.heap.size A L) (hx : -9223372036854775808 ≤ x ∧ x ≤ 9223372036854775807) :
    Calls Try.prog 16 #[.slice A n c, .int .i64 x] w fun e w' => e = .returned (.bool true) ∧ Below w.heap.size w w' := by
  have HB0 : Hid (Below w.heap.size w w) := hide (Below.refl _ _)
  have HAW := hide (fun w' => awake_any w')
  have HRV := hide (fun w' (hb : Below w.heap.size w w') => drefvalid_any A n c L w' hn hlen (hA.next hb))
  cases hv : jobsB L
  · rw [hv] at HRV
    clear hv hn hA hx
    go_enter Try.func16, Try.ntmps16
    go_wp2_with (first
      | (go_at_call 19; (with_reducible refine (HRV.out _ HB0.out).mono ?_); rintro e w1 ⟨rfl, hb1⟩; have HB1 := hide (HB0.out.trans (hb1.mono HB0.out.size)); clear hb1)
      | (go_at_call 20; (with_reducible refine (HAW.out _).mono ?_); rintro e w2 ⟨rfl, hb2⟩; have HB2 := hide (HB1.out.trans (hb2.mono HB1.out.size)); clear hb2))
    go_ret
    exact ⟨rfl, HB2.out⟩
  · have hL := jobsB_iff.1 hv
    have h8 : n ≤ 8 := by rw [← hn]; exact hL.le
    have h1n : 1 ≤ n := by rw [← hn]; exact hL.pos
    obtain ⟨b, hbn, hmod⟩ := modUn x h1n (show n ≤ 100 by omega)
    have hn0 : ((n : Int) == 0) = false := by simp; omega
    have hn1 : ¬ n = 0 := by omega
    have hbni : (b : Int) < (n : Int) := by omega
    have HBN : Hid (b < L.length) := by show _ < _; rw [hn]; exact hbn
    obtain ⟨t, r, d, u, hjb⟩ : ∃ t r d u, L.getD b j0 = ⟨t, r, d, u⟩ := ⟨_, _, _, _, rfl⟩
    have htb := hL.at_ b HBN.out
    rw [hjb] at htb
    simp only [] at htb
    obtain ⟨ht0, ht1, _⟩ := htb
    have HJB := hide hjb
    have htt : (L.getD b j0).t = t := by rw [hjb]
    have HSJ : Hid (L.set b ⟨t + 1, (L.getD b j0).r, (L.getD b j0).d, (L.getD b j0).w⟩ = slowJ L b) := by show _ = _; rw [slowJ, htt]
    clear htt
    have hs := slow_slower (L := L) HBN.out
    have HOO : Hid (∀ w', Below w.heap.size w w' → Calls Try.prog 18 #[.slice A n c] w' fun e w'' => ∃ X c', e = .returned (.slice X n c') ∧ w''.ownsRow w'.heap.size 48 4 (.slice X n c') n (jcells L) ∧ Below w'.heap.size w' w'') := fun w' hb =>
      (of_any A n c L w' hn hlen (hA.next hb)).mono fun e w'' ⟨X, k, c', h1, h2, h3, h4, h5⟩ => by
        rw [hL.take] at h2 h4
        rw [hn] at h2; subst h2
        exact ⟨X, c', h1, h4, h5⟩
    have HOF : Hid (∀ w', Below w.heap.size w w' → Calls Try.prog 18 #[.slice A n c] w' fun e w'' => ∃ X c', e = .returned (.slice X n c') ∧ JobsA w'' w''.heap.size X L ∧ Below w'.heap.size w' w'') := fun w' hb =>
      (HOO.out w' hb).mono fun e w'' ⟨X, c', h1, h2, h3⟩ => ⟨X, c', h1, jobs_of_own h2, h3⟩
    have HD := hide (fun w' X c' (hX : JobsA w' w'.heap.size X L) => delayA_yes X n c' L w' hn hlen hX hv)
    have hln : (slowJ L b).length = n := by rw [hs.len]; exact hn
    rw [hv] at HRV
    have hmo := hmod
    cases hv2 : jobsB (slowJ L b)
    · have HD2 := hide (fun w' X c' (hX : JobsA w' w'.heap.size X (slowJ L b)) => delayA_no X n c' (slowJ L b) w' hln hlen hX hv2)
      generalize delN L (planN false L) = D1 at *
      clear hv hv2 hn hA hx hL hs hln hjb hmod
      go_enter Try.func16, Try.ntmps16
      go_wp2_with (first
        | (go_at_call 19; (with_reducible refine (HRV.out _ HB0.out).mono ?_); rintro e w1 ⟨rfl, hb1⟩; have HB1 := hide (HB0.out.trans (hb1.mono HB0.out.size)); clear hb1)
        | (go_at_call 18; (with_reducible refine (HOO.out _ HB1.out).mono ?_); rintro e w2 ⟨X2, c2, rfl, hx2, hb2⟩; obtain ⟨g, cc, hXe, hg1, hg2, hg3, hg4⟩ := own_formS hx2 (by omega); injection hXe with hXe1 _ hXe2; subst hXe1; subst hXe2; have hca := jcells_at L b HBN.out; rw [HJB.out] at hca; have y1 := own_cell hx2 hca.1; have f1 := own_free hx2 (b * 4); have HO1 := own_set hx2 (i := b * 4) (by omega) (.int .i64 (t + 1)); rw [jcells_set0 _ _ _ HBN.out, HSJ.out] at HO1; have HX := hide (jobs_of_own HO1); have HB2 := hide (HB1.out.trans (hb2.mono HB1.out.size)); have HB3 := hide (HB2.out.setCell (p := ⟨g, b * 4, none⟩) (by have := HB1.out.size; show w.heap.size ≤ g; omega) (.int .i64 (t + 1))); clear hx2 hb2 hca HO1)
        | (go_at_call 18; (with_reducible refine (HOF.out _ HB3.out).mono ?_); rintro e w4 ⟨X4, c4, rfl, hx4, hb4⟩; have HX := hide (HX.out.next hb4); have HB4 := hide (HB3.out.trans (hb4.mono HB3.out.size)); have HX4 := hide hx4; clear hx4; clear hb4)
        | (go_at_call 25; (with_reducible refine (HD.out _ X4 c4 HX4.out).mono ?_); rintro e w5 ⟨rfl, hb5⟩; have HX := hide (HX.out.next hb5); have HB5 := hide (HB4.out.trans (hb5.mono HB4.out.size)); clear hb5)
        | (go_at_call 25; (with_reducible refine (HD2.out _ _ c2 HX.out).mono ?_); rintro e w6 ⟨rfl, hb6⟩; have HX := hide (HX.out.next hb6); have HB6 := hide (HB5.out.trans (hb6.mono HB5.out.size)); clear hb6)
        | (go_at_call 20; (with_reducible refine (HAW.out _).mono ?_); rintro e w7 ⟨rfl, hb7⟩; have HB7 := hide (HB6.out.trans (hb7.mono HB6.out.size)); clear hb7))
      go_ret
      exact ⟨by simp, HB7.out⟩
    · have hL2 := jobsB_iff.1 hv2
      have HD2 := hide (fun w' X c' (hX : JobsA w' w'.heap.size X (slowJ L b)) => delayA_yes X n c' (slowJ L b) w' hln hlen hX hv2)
      have HS := hide (fun w' X c' (hX : JobsA w' w'.heap.size X L) => short_yes X n c' L w' hn hlen hX hv)
      have HS2 := hide (fun w' X c' (hX : JobsA w' w'.heap.size X (slowJ L b)) => short_yes X n c' (slowJ L b) w' hln hlen hX hv2)
      obtain ⟨r1, hr1⟩ := worst0_some hL
      obtain ⟨r2, hr2⟩ := worst0_some hL2
      have f3 := least_slow hs hL hL2 hr1 hr2
      rw [hn] at hr1
      rw [hln] at hr2
      have HL1 := hide (fun w' X c' (hX : JobsA w' w'.heap.size X L) => least_nil hn hlen hv hr1 w' X c' hX)
      have HL2 := hide (fun w' X c' (hX : JobsA w' w'.heap.size X (slowJ L b)) => least_nil hln hlen hv2 hr2 w' X c' hX)
      have HM := hide (fun w' X c' (hX : JobsA w' w'.heap.size X L) => most_yes X n c' L w' hn hlen hX hv)
      have HM2 := hide (fun w' X c' (hX : JobsA w' w'.heap.size X (slowJ L b)) => most_yes X n c' (slowJ L b) w' hln hlen hX hv2)
      have f1 := delay_slow hs hL hL2
      have f2 := sum_slow hs hL hL2
      have f4 := most_slow hs hL hL2
      have hM1 : mostN L < 256 := mostN_lt hL.le
      have hM2 : mostN (slowJ L b) < 256 := mostN_lt hL2.le
      generalize delN L (planN false L) = D1 at *
      generalize delN (slowJ L b) (planN false (slowJ L b)) = D2 at *
      generalize endSum L (planN true L) = E1 at *
      generalize endSum (slowJ L b) (planN true (slowJ L b)) = E2 at *
      generalize mostN L = M1 at *
      generalize mostN (slowJ L b) = M2 at *
      have d1 : decide (D1 ≤ D2) = true := decide_eq_true f1
      have d2 : decide (E1 < E2) = true := decide_eq_true f2
      have d3 : decide (r1 ≤ r2) = true := decide_eq_true f3
      have F4 := hide f4
      clear f1 f2 f3 f4 hv hv2 hn hA hx hL hL2 hs hln hjb hmod hr1 hr2
      go_enter Try.func16, Try.ntmps16
      go_wp2_with (first
        | (go_at_call 19; (with_reducible refine (HRV.out _ HB0.out).mono ?_); rintro e w1 ⟨rfl, hb1⟩; have HB1 := hide (HB0.out.trans (hb1.mono HB0.out.size)); clear hb1)
        | (go_at_call 18; (with_reducible refine (HOO.out _ HB1.out).mono ?_); rintro e w2 ⟨X2, c2, rfl, hx2, hb2⟩; obtain ⟨g, cc, hXe, hg1, hg2, hg3, hg4⟩ := own_formS hx2 (by omega); injection hXe with hXe1 _ hXe2; subst hXe1; subst hXe2; have hca := jcells_at L b HBN.out; rw [HJB.out] at hca; have y1 := own_cell hx2 hca.1; have f1 := own_free hx2 (b * 4); have HO1 := own_set hx2 (i := b * 4) (by omega) (.int .i64 (t + 1)); rw [jcells_set0 _ _ _ HBN.out, HSJ.out] at HO1; have HX := hide (jobs_of_own HO1); have HB2 := hide (HB1.out.trans (hb2.mono HB1.out.size)); have HB3 := hide (HB2.out.setCell (p := ⟨g, b * 4, none⟩) (by have := HB1.out.size; show w.heap.size ≤ g; omega) (.int .i64 (t + 1))); clear hx2 hb2 hca HO1)
        | (go_at_call 18; (with_reducible refine (HOF.out _ HB3.out).mono ?_); rintro e w4 ⟨X4, c4, rfl, hx4, hb4⟩; have HX := hide (HX.out.next hb4); have HB4 := hide (HB3.out.trans (hb4.mono HB3.out.size)); have HX4 := hide hx4; clear hx4; clear hb4)
        | (go_at_call 25; (with_reducible refine (HD.out _ X4 c4 HX4.out).mono ?_); rintro e w5 ⟨rfl, hb5⟩; have HX := hide (HX.out.next hb5); have HB5 := hide (HB4.out.trans (hb5.mono HB4.out.size)); clear hb5)
        | (go_at_call 25; (with_reducible refine (HD2.out _ _ c2 HX.out).mono ?_); rintro e w6 ⟨rfl, hb6⟩; have HX := hide (HX.out.next hb6); have HB6 := hide (HB5.out.trans (hb6.mono HB5.out.size)); clear hb6)
        | (go_at_call 18; (with_reducible refine (HOF.out _ HB6.out).mono ?_); rintro e w7 ⟨X7, c7, rfl, hx7, hb7⟩; have HX := hide (HX.out.next hb7); have HB7 := hide (HB6.out.trans (hb7.mono HB6.out.size)); have HX7 := hide hx7; clear hx7; clear hb7)
        | (go_at_call 17; (with_reducible refine (HS.out _ X7 c7 HX7.out).mono ?_); rintro e w8 ⟨P8, m8, e8, rfl, _, _, _, hb8⟩; have HX := hide (HX.out.next hb8); have HB8 := hide (HB7.out.trans (hb8.mono HB7.out.size)); clear hb8)
        | (go_at_call 17; (with_reducible refine (HS2.out _ _ c2 HX.out).mono ?_); rintro e w9 ⟨P9, m9, e9, rfl, _, _, _, hb9⟩; have HX := hide (HX.out.next hb9); have HB9 := hide (HB8.out.trans (hb9.mono HB8.out.size)); clear hb9)
        | (go_at_call 18; (with_reducible refine (HOF.out _ HB9.out).mono ?_); rintro e w10 ⟨X10, c10, rfl, hx10, hb10⟩; have HX := hide (HX.out.next hb10); have HB10 := hide (HB9.out.trans (hb10.mono HB9.out.size)); have HX10 := hide hx10; clear hx10; clear hb10)
        | (go_at_call 40; (with_reducible refine (HL1.out _ X10 c10 HX10.out).mono ?_); rintro e w11 ⟨Z11, l11, e11, rfl, hb11⟩; have HX := hide (HX.out.next hb11); have HB11 := hide (HB10.out.trans (hb11.mono HB10.out.size)); clear hb11)
        | (go_at_call 40; (with_reducible refine (HL2.out _ _ c2 HX.out).mono ?_); rintro e w12 ⟨Z12, l12, e12, rfl, hb12⟩; have HX := hide (HX.out.next hb12); have HB12 := hide (HB11.out.trans (hb12.mono HB11.out.size)); clear hb12)
        | (go_at_call 18; (with_reducible refine (HOF.out _ HB12.out).mono ?_); rintro e w13 ⟨X13, c13, rfl, hx13, hb13⟩; have HX := hide (HX.out.next hb13); have HB13 := hide (HB12.out.trans (hb13.mono HB12.out.size)); have HX13 := hide hx13; clear hx13; clear hb13)
        | (go_at_call 49; (with_reducible refine (HM.out _ X13 c13 HX13.out).mono ?_); rintro e w14 ⟨rfl, hb14⟩; have HX := hide (HX.out.next hb14); have HB14 := hide (HB13.out.trans (hb14.mono HB13.out.size)); clear hb14)
        | (go_at_call 49; (with_reducible refine (HM2.out _ _ c2 HX.out).mono ?_); rintro e w15 ⟨rfl, hb15⟩; have HX := hide (HX.out.next hb15); have HB15 := hide (HB14.out.trans (hb15.mono HB14.out.size)); clear hb15))
      go_loopw [22, 26] (fun sv cv wr => ∃ T q : Nat, T < 256 ∧ sv = .int .i64 (T : Nat) ∧ cv = .int .i64 (q : Nat) ∧ Hid (q + cardF 8 T = cardF 8 M1) ∧ wr = w15) (fun v _ _ => (intOf v).toNat)
      case atStart => exact ⟨M1, 0, hM1, rfl, rfl, hide (Nat.zero_add _), rfl⟩
      case round =>
        obtain ⟨T, q, hT, rfl, rfl, HQ, rfl⟩ := hrel
        by_cases hT0 : 0 < T
        · have hd := drop_one T hT hT0
          have hq8 : q ≤ 256 := by have := HQ.out; have := cardF_le 8 M1; omega
          have hTi : (0 : Int) < (T : Int) := by omega
          have HN1 : Hid (q + 1 + cardF 8 (T &&& (T - 1)) = cardF 8 M1) := by have := HQ.out; exact hide (by omega)
          have hlt2 : T &&& (T - 1) < T := Nat.lt_of_le_of_lt Nat.and_le_right (by omega)
          clear hd
          have hband : bits BinOp.and IntKind.i64 (T : Int) ((T : Int) - 1) = ((T &&& (T - 1) : Nat) : Int) := by
            rw [show (T : Int) - 1 = ((T - 1 : Nat) : Int) by omega]
            exact band_nat T (T - 1) (by omega) (by omega)
          go_wp2
          refine ⟨⟨T &&& (T - 1), q + 1, by omega, rfl, by go_num, HN1, trivial⟩, ?_⟩
          simp only [intOf, Int.toNat_natCast]
          exact hlt2
        · obtain rfl : T = 0 := by omega
          have hq8 : q = cardF 8 M1 := HQ.out
          have hq9 : q ≤ 8 := by rw [hq8]; exact cardF_le 8 M1
          have HQ8 := hide hq8
          have HBE := HB15
          obtain ⟨wz, rfl⟩ : ∃ wz : World, wz = wr := ⟨_, rfl⟩
          clear hq8 HQ
          go_wp2
          go_loopw [24, 26] (fun sv cv wr => ∃ (T : Nat) (y : Int), T < 256 ∧ sv = .int .i64 (T : Nat) ∧ cv = .int .i64 y ∧ Hid (y - cardF 8 T = (q : Int) - cardF 8 M2) ∧ wr = wz) (fun v _ _ => (intOf v).toNat)
          case atStart => exact ⟨M2, q, hM2, rfl, rfl, hide rfl, rfl⟩
          case round =>
            obtain ⟨T, y, hT, rfl, rfl, HQ, rfl⟩ := hrel
            have hc1 := cardF_le 8 T
            have hc2 := cardF_le 8 M2
            have hyb : -10 ≤ y ∧ y ≤ 20 := by have := HQ.out; omega
            by_cases hT0 : 0 < T
            · have hd := drop_one T hT hT0
              have hTi : (0 : Int) < (T : Int) := by omega
              have HN1 : Hid (y - 1 - cardF 8 (T &&& (T - 1)) = (q : Int) - cardF 8 M2) := by have := HQ.out; exact hide (by omega)
              have hlt2 : T &&& (T - 1) < T := Nat.lt_of_le_of_lt Nat.and_le_right (by omega)
              clear hd hc1 hc2
              have hband : bits BinOp.and IntKind.i64 (T : Int) ((T : Int) - 1) = ((T &&& (T - 1) : Nat) : Int) := by
                rw [show (T : Int) - 1 = ((T - 1 : Nat) : Int) by omega]
                exact band_nat T (T - 1) (by omega) (by omega)
              go_wp2
              refine ⟨⟨T &&& (T - 1), y - 1, by omega, rfl, rfl, HN1, trivial⟩, ?_⟩
              simp only [intOf, Int.toNat_natCast]
              exact hlt2
            · obtain rfl : T = 0 := by omega
              have hy0 : 0 ≤ y := by
                have h1 := HQ.out
                have h2 := F4.out
                have h3 := HQ8.out
                have h4 : cardF 8 0 = 0 := rfl
                omega
              have d4 : decide (0 ≤ y) = true := decide_eq_true hy0
              clear hc1 hc2
              go_wp2_with (first
                | (go_at_call 20; (with_reducible refine (HAW.out _).mono ?_); rintro e w16 ⟨rfl, hb16⟩; have HB16 := hide (HB15.out.trans (hb16.mono HB15.out.size)); clear hb16))
              go_ret
              exact ⟨by simp, HB16.out⟩
end Go.Proofs.Ytiadineakhcclaa

/-
  Arguments that came in, opened: slices of structs of ints (jobs, pieces).
-/
namespace Go.Proofs.Ytiadineakhcclaa
open Go.ChangeShapes Go.WideShapes Go.ChangeAt Go.RowKit Go.Deep
set_option linter.unusedVariables false
set_option linter.unusedSimpArgs false

section
variable {H : Type} {enc : TypeId × Value → H} {P : Program} {w : World} {base : Nat} {held : Bool}
theorem cells_ints {t e q : TypeId} {fs : Array Field} {k fuel len cap : Nat} {a : Option Addr} {x : DataW H × List MemPlace} (ht : P.underlying t = some (.slice e)) (he : P.underlying e = some (.struct fs)) (hC : P.cellsOf e = k) (hk : 0 < k)
    (hf : ∀ j, j < k → ∃ f, fs[j]? = some f ∧ f.offset = j ∧ f.type = q) (hq : P.underlying q = some (.int .i64)) (cq : P.cellsOf q = 1) (h : DataW.trod enc P w base (fun _ => true) held fuel t [.slice a len cap] = some x) :
    len ≤ cap ∧ cap ≤ 9223372036854775807 ∧ ∀ i, i < len → ∃ b o, a = some ⟨b, o, none⟩ ∧ ∀ j, j < k → ∃ n, w.cell? ⟨b, o + (i * k + j), none⟩ = some (.int .i64 n) := by
  rcases open_slice ht h with ⟨h0, _⟩ | ⟨a', len', cap', m, n, D, Pl, hcs, hb, hl, hm, hmm, hx, hi⟩
  · simp at h0
    obtain ⟨rfl, rfl, rfl⟩ := h0
    exact ⟨Nat.le_refl _, by omega, fun i hi => absurd hi (by omega)⟩
  · simp at hcs
    obtain ⟨rfl, rfl, rfl⟩ := hcs
    simp only [if_true] at hmm
    have hall : ∀ i, i < len → ∀ j, j < k → ∃ n, w.cell? (a'.add (i * k + j)) = some (.int .i64 n) := fun i hil j hj => by
      obtain ⟨cs', hc, ht'⟩ := hi i (by omega)
      rw [hC] at hc
      obtain ⟨ys, n', _, _, hlen, hyl, hfl⟩ := DataW.trod_struct he ht'
      obtain ⟨_, hcl, hat⟩ := World.cells?_some hc
      obtain ⟨f, hfj, hfo, hft⟩ := hf j hj
      have h1 := hfl j f hfj
      have hjs : j < fs.size := (Array.getElem?_eq_some_iff.1 hfj).1
      rw [hfo, hft, cq, List.drop_eq_getElem_cons (by omega), List.getElem?_eq_getElem (by omega)] at h1
      obtain ⟨z, hz, _, _⟩ := DataW.trod_int hq h1
      have hz1 : cs'[j]'(by omega) = .int .i64 z := by
        have : (cs'[j]'(by omega) :: cs'.drop (j + 1)).take 1 = [cs'[j]'(by omega)] := rfl
        rw [this] at hz
        injection hz
      refine ⟨z, ?_⟩
      rw [← Go.Deep.add_add, hat j hj, List.getElem?_eq_getElem (by omega), hz1]
    refine ⟨hl, hm, fun i hil => ?_⟩
    have h00 : ∃ v0, w.cell? (a'.add 0) = some v0 := by
      obtain ⟨z, hz⟩ := hall 0 (by omega) 0 hk
      rw [Nat.zero_mul] at hz
      exact ⟨_, hz⟩
    obtain ⟨z, hz⟩ := hall i hil 0 hk
    obtain ⟨b, o, rfl, _⟩ := add_cell hz h00
    refine ⟨b, o, rfl, fun j hj => ?_⟩
    obtain ⟨z, hz⟩ := hall i hil j hj
    rw [add_plain] at hz
    exact ⟨z, hz⟩

theorem jobsA_of {t e q : TypeId} {fs : Array Field} {fuel len cap : Nat} {a : Option Addr} {x : DataW H × List MemPlace} (ht : P.underlying t = some (.slice e)) (he : P.underlying e = some (.struct fs)) (hC : P.cellsOf e = 4)
    (hf : ∀ j, j < 4 → ∃ f, fs[j]? = some f ∧ f.offset = j ∧ f.type = q) (hq : P.underlying q = some (.int .i64)) (cq : P.cellsOf q = 1) (h : DataW.trod enc P w base (fun _ => true) held fuel t [.slice a len cap] = some x) :
    ∃ L : List J4, L.length = len ∧ len ≤ cap ∧ cap ≤ 9223372036854775807 ∧ JobsA w w.heap.size a L := by
  obtain ⟨h1, h2, h3⟩ := cells_ints ht he hC (by omega) hf hq cq h
  have h4 : ∀ i, i < len → ∃ j : J4, ∃ b o, a = some ⟨b, o, none⟩ ∧ b < w.heap.size ∧ w.cell? ⟨b, o + i * 4, none⟩ = some (.int .i64 j.t) ∧ w.cell? ⟨b, o + i * 4 + 1, none⟩ = some (.int .i64 j.r) ∧
      w.cell? ⟨b, o + i * 4 + 2, none⟩ = some (.int .i64 j.d) ∧ w.cell? ⟨b, o + i * 4 + 3, none⟩ = some (.int .i64 j.w) := fun i hi => by
    obtain ⟨b, o, e1, h5⟩ := h3 i hi
    obtain ⟨x0, y0⟩ := h5 0 (by omega)
    obtain ⟨x1, y1⟩ := h5 1 (by omega)
    obtain ⟨x2, y2⟩ := h5 2 (by omega)
    obtain ⟨x3, y3⟩ := h5 3 (by omega)
    rw [← Nat.add_assoc] at y1 y2 y3
    rw [Nat.add_zero] at y0
    exact ⟨⟨x0, x1, x2, x3⟩, b, o, e1, cell_lt y0, y0, y1, y2, y3⟩
  obtain ⟨f, hf2⟩ := Classical.axiomOfChoice (r := fun (i : Nat) (j : J4) => i < len → ∃ b o, a = some ⟨b, o, none⟩ ∧ b < w.heap.size ∧ w.cell? ⟨b, o + i * 4, none⟩ = some (.int .i64 j.t) ∧ w.cell? ⟨b, o + i * 4 + 1, none⟩ = some (.int .i64 j.r) ∧
      w.cell? ⟨b, o + i * 4 + 2, none⟩ = some (.int .i64 j.d) ∧ w.cell? ⟨b, o + i * 4 + 3, none⟩ = some (.int .i64 j.w)) (fun i => by
    by_cases hi : i < len
    · obtain ⟨j, hj⟩ := h4 i hi; exact ⟨j, fun _ => hj⟩
    · exact ⟨j0, fun h => absurd h hi⟩)
  refine ⟨(List.range len).map f, by simp, h1, h2, fun i hi => ?_⟩
  rw [List.length_map, List.length_range] at hi
  have e : ((List.range len).map f).getD i j0 = f i := by simp [List.getD_eq_getElem?_getD, hi]
  rw [e]
  exact hf2 i hi
theorem pcsA_of {t e q : TypeId} {fs : Array Field} {fuel len cap : Nat} {a : Option Addr} {x : DataW H × List MemPlace} (ht : P.underlying t = some (.slice e)) (he : P.underlying e = some (.struct fs)) (hC : P.cellsOf e = 3)
    (hf : ∀ j, j < 3 → ∃ f, fs[j]? = some f ∧ f.offset = j ∧ f.type = q) (hq : P.underlying q = some (.int .i64)) (cq : P.cellsOf q = 1) (h : DataW.trod enc P w base (fun _ => true) held fuel t [.slice a len cap] = some x) :
    ∃ L : List P3, L.length = len ∧ len ≤ cap ∧ cap ≤ 9223372036854775807 ∧ PcsA w w.heap.size a L := by
  obtain ⟨h1, h2, h3⟩ := cells_ints ht he hC (by omega) hf hq cq h
  have h4 : ∀ i, i < len → ∃ j : P3, ∃ b o, a = some ⟨b, o, none⟩ ∧ b < w.heap.size ∧ w.cell? ⟨b, o + i * 3, none⟩ = some (.int .i64 j.job) ∧ w.cell? ⟨b, o + i * 3 + 1, none⟩ = some (.int .i64 j.fr) ∧
      w.cell? ⟨b, o + i * 3 + 2, none⟩ = some (.int .i64 j.to) := fun i hi => by
    obtain ⟨b, o, e1, h5⟩ := h3 i hi
    obtain ⟨x0, y0⟩ := h5 0 (by omega)
    obtain ⟨x1, y1⟩ := h5 1 (by omega)
    obtain ⟨x2, y2⟩ := h5 2 (by omega)
    rw [← Nat.add_assoc] at y1 y2
    rw [Nat.add_zero] at y0
    exact ⟨⟨x0, x1, x2⟩, b, o, e1, cell_lt y0, y0, y1, y2⟩
  obtain ⟨f, hf2⟩ := Classical.axiomOfChoice (r := fun (i : Nat) (j : P3) => i < len → ∃ b o, a = some ⟨b, o, none⟩ ∧ b < w.heap.size ∧ w.cell? ⟨b, o + i * 3, none⟩ = some (.int .i64 j.job) ∧ w.cell? ⟨b, o + i * 3 + 1, none⟩ = some (.int .i64 j.fr) ∧
      w.cell? ⟨b, o + i * 3 + 2, none⟩ = some (.int .i64 j.to)) (fun i => by
    by_cases hi : i < len
    · obtain ⟨j, hj⟩ := h4 i hi; exact ⟨j, fun _ => hj⟩
    · exact ⟨p0, fun h => absurd h hi⟩)
  refine ⟨(List.range len).map f, by simp, h1, h2, fun i hi => ?_⟩
  rw [List.length_map, List.length_range] at hi
  have e : ((List.range len).map f).getD i p0 = f i := by simp [List.getD_eq_getElem?_getD, hi]
  rw [e]
  exact hf2 i hi
end
end Go.Proofs.Ytiadineakhcclaa
