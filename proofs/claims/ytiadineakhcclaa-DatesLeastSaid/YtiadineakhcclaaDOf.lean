/-
  The statements' own conversions: Of, own, pieces.
-/
import Derived.Test.YtiadineakhcclaaDValid
namespace Go.Proofs.Ytiadineakhcclaa
open Go.RowKit Go.Deep
set_option linter.unusedVariables false
set_option linter.unusedSimpArgs false

theorem info_of : (Try.prog.info? 48).map (fun i => (i.zero, i.size, i.bytes)) = some (some (.agg #[.int .i64 0, .int .i64 0, .int .i64 0, .int .i64 0]), 4, 32) := by kernel_rfl
set_option maxRecDepth 100000 in
set_option maxHeartbeats 1600000 in
theorem of_any (A : Option Addr) (n c : Nat) (L : List J4) (w : World) (hn : L.length = n) (hlen : n ≤ 9223372036854775807) (hA : JobsA w w.heap.size A L) :
    Calls Try.prog 18 #[.slice A n c] w fun e w' => ∃ X k c', e = .returned (.slice X k c') ∧ (L.take 10).length = k ∧ k ≤ c' ∧ w'.ownsRow w.heap.size 48 4 (.slice X k c') k (jcells (L.take 10)) ∧ Below w.heap.size w w' := by
  have HN := hide hn
  have HA := hide hA
  clear hn hA
  go_enter Try.func18, Try.ntmps18
  go_wp2
  go_loopw [3, 8] (fun v i wr => ∃ (k j c' : Nat) (X : Option Addr), k ≤ n ∧ i = .int .i64 k ∧ v = .slice X j c' ∧ j ≤ c' ∧ j ≤ k ∧ j ≤ 10 ∧ Hid (((L.take 10).take k).length = j) ∧ Hid (wr.ownsRow w.heap.size 48 4 (.slice X j c') j (jcells ((L.take 10).take k))) ∧ Below w.heap.size w wr) (fun _ i _ => n - (intOf i).toNat)
  case atStart => exact ⟨0, 0, 0, none, Nat.zero_le _, rfl, rfl, Nat.le_refl _, Nat.le_refl _, by omega, hide (by simp), hide (by rw [List.take_zero]; exact World.ownsRow_nil _ _ _ _), Below.refl _ _⟩
  case round =>
    obtain ⟨k, j, c', X, hk, rfl, rfl, hjc, hjk, hj9, HL, HOW, hbel⟩ := hrel
    have HB := hide hbel
    by_cases hlt : k < n
    · obtain ⟨bj, oj, t, r, d, u, rfl, hbj, hc0, hc1, hc2, hc3,hx⟩ := (HA.out.below hbel).at_ (k := k) (by rw [HN.out]; exact hlt)
      have HX := hide hx.out
      have hkn : (k : Int) < (n : Int) := by omega
      have HBA : Hid (∀ o, Below w.heap.size w (wr.alloc o)) := fun o => HB.out.alloc HB.out.size _
      clear hbel hx
      by_cases h10 : k < 10
      · have h10' : (k : Int) < 10 := by omega
        have hj10 : j < 10 := by have := HL.out; rw [List.length_take, List.length_take, HN.out] at this; omega
        have hone : ∀ y9 ∈ ([.int .i64 t, .int .i64 r, .int .i64 d, .int .i64 u] : List Value), y9.oneCell' = true := by intro y9 hu; simp at hu; rcases hu with rfl | rfl | rfl | rfl <;> rfl
        have HST : Hid ((L.take 10).take (k + 1) = ((L.take 10).take k) ++ [⟨t, r, d, u⟩]) := by
          rw [List.take_succ_eq_append_getElem (by rw [List.length_take, HN.out]; omega)]
          congr 1
          rw [List.getElem_take, getD_cons_of (d := j0) (by rw [HN.out]; omega), HX.out]
        go_wp2_with (at_builtin; refine wpList_appS (w0 := wr.alloc (.cells #[.int .i64 t, .int .i64 r, .int .i64 d, .int .i64 u] 43)) _ _ 27 48 (.agg #[.int .i64 0, .int .i64 0, .int .i64 0, .int .i64 0]) 4 32 rfl rfl Try.underlying27 info_of rfl (by decide) w.heap.size (.slice X j c') j (jcells ((L.take 10).take k)) [.int .i64 t, .int .i64 r, .int .i64 d, .int .i64 u] rfl rfl (by simp [Act.eval]) rfl ⟨_, rfl⟩ (HOW.out.alloc _) hone (by omega) (by omega) (HBA.out _).size ?_; intro ga cg w7 hown1 hd1 hd2 hg1 hgl2 hgrow; have HOW7 := hide hown1; have HG := hide hgrow; clear hown1 hgrow)
        go_roundw
        case rel =>
          refine ⟨k + 1, j + 1, cg, some ⟨ga, 0, none⟩, by omega, by go_num, rfl, hd1, by omega, by omega, hide ?_, hide ?_, (HBA.out _).grown HG.out (HBA.out _).size (fun q hq => (own_ltS HOW.out q hq).1)⟩
          · rw [HST.out, List.length_append, HL.out]; rfl
          · rw [HST.out, jcells_snoc]; exact HOW7.out
        case measure => simp [intOf] <;> omega
      · have h10' : ¬ (k : Int) < 10 := by omega
        have HST : Hid ((L.take 10).take (k + 1) = (L.take 10).take k) := by
          rw [List.take_of_length_le (l := L.take 10) (by rw [List.length_take]; omega), List.take_of_length_le (l := L.take 10) (by rw [List.length_take]; omega)]; exact hide rfl
        have hd : decide ((k : Int) < 10) = false := decide_eq_false h10'
        go_wp2
        go_roundw
        case rel => exact ⟨k + 1, j, c', X, by omega, by go_num, rfl, hjc, by omega, hj9, hide (by rw [HST.out]; exact HL.out), hide (by rw [HST.out]; exact HOW.out.alloc _), HBA.out _⟩
        case measure => simp [intOf] <;> omega
    · obtain rfl : n = k := by omega
      have HALL : Hid ((L.take 10).take n = L.take 10) := List.take_of_length_le (by rw [List.length_take, HN.out]; omega)
      rw [HALL.out] at HL HOW
      go_wp2
      go_ret
      exact ⟨X, j, c', rfl, HL.out, hjc, HOW.out, HB.out⟩
theorem info_ownp : (Try.prog.info? 36).map (fun i => (i.zero, i.size, i.bytes)) = some (some (.agg #[.int .i64 0, .int .i64 0, .int .i64 0]), 3, 24) := by kernel_rfl
set_option maxRecDepth 100000 in
set_option maxHeartbeats 1600000 in
theorem ownp_any (A : Option Addr) (n c : Nat) (L : List P3) (w : World) (hn : L.length = n) (hlen : n ≤ 1000) (hA : PcsA w w.heap.size A L) :
    Calls Try.prog 23 #[.slice A n c] w fun e w' => ∃ X k c', e = .returned (.slice X k c') ∧ L.length = k ∧ k ≤ c' ∧ w'.ownsRow w.heap.size 36 3 (.slice X k c') k (pcells L) ∧ Below w.heap.size w w' := by
  have HN := hide hn
  have HA := hide hA
  clear hn hA
  go_enter Try.func23, Try.ntmps23
  go_wp2
  go_loopw [3, 8] (fun v i wr => ∃ (k j c' : Nat) (X : Option Addr), k ≤ n ∧ i = .int .i64 k ∧ v = .slice X j c' ∧ j ≤ c' ∧ j ≤ k ∧ Hid ((L.take k).length = j) ∧ Hid (wr.ownsRow w.heap.size 36 3 (.slice X j c') j (pcells (L.take k))) ∧ Below w.heap.size w wr) (fun _ i _ => n - (intOf i).toNat)
  case atStart => exact ⟨0, 0, 0, none, Nat.zero_le _, rfl, rfl, Nat.le_refl _, Nat.le_refl _, hide (by simp), hide (by rw [List.take_zero]; exact World.ownsRow_nil _ _ _ _), Below.refl _ _⟩
  case round =>
    obtain ⟨k, j, c', X, hk, rfl, rfl, hjc, hjk, HL, HOW, hbel⟩ := hrel
    have HB := hide hbel
    by_cases hlt : k < n
    · obtain ⟨bj, oj, pj, pf, pt, rfl, hbj, hc0, hc1, hc2,hx⟩ := (HA.out.below hbel).at_ (k := k) (by rw [HN.out]; exact hlt)
      have HX := hide hx.out
      have hkn : (k : Int) < (n : Int) := by omega
      have HBA : Hid (∀ o, Below w.heap.size w (wr.alloc o)) := fun o => HB.out.alloc HB.out.size _
      clear hbel hx
      have hone : ∀ y9 ∈ ([.int .i64 pj, .int .i64 pf, .int .i64 pt] : List Value), y9.oneCell' = true := by intro y9 hu; simp at hu; rcases hu with rfl | rfl | rfl <;> rfl
      have HST : Hid (L.take (k + 1) = (L.take k) ++ [⟨pj, pf, pt⟩]) := by
        rw [List.take_succ_eq_append_getElem (by rw [HN.out]; omega)]
        congr 1
        rw [getD_cons_of (d := p0) (by rw [HN.out]; omega), HX.out]
      go_wp2_with (at_builtin; refine wpList_appS (w0 := wr.alloc (.cells #[.int .i64 pj, .int .i64 pf, .int .i64 pt] 44)) _ _ 31 36 (.agg #[.int .i64 0, .int .i64 0, .int .i64 0]) 3 24 rfl rfl Try.underlying31 info_ownp rfl (by decide) w.heap.size (.slice X j c') j (pcells (L.take k)) [.int .i64 pj, .int .i64 pf, .int .i64 pt] rfl rfl (by simp [Act.eval]) rfl ⟨_, rfl⟩ (HOW.out.alloc _) hone (by omega) (by omega) (HBA.out _).size ?_; intro ga cg w7 hown1 hd1 hd2 hg1 hgl2 hgrow; have HOW7 := hide hown1; have HG := hide hgrow; clear hown1 hgrow)
      go_roundw
      case rel =>
        refine ⟨k + 1, j + 1, cg, some ⟨ga, 0, none⟩, by omega, by go_num, rfl, hd1, by omega, hide ?_, hide ?_, (HBA.out _).grown HG.out (HBA.out _).size (fun q hq => (own_ltS HOW.out q hq).1)⟩
        · rw [HST.out, List.length_append, HL.out]; rfl
        · rw [HST.out, pcells_snoc]; exact HOW7.out
      case measure => simp [intOf] <;> omega
    · obtain rfl : n = k := by omega
      have HALL : Hid (L.take n = L) := List.take_of_length_le (by rw [HN.out]; exact Nat.le_refl _)
      rw [HALL.out] at HL HOW
      go_wp2
      go_ret
      exact ⟨X, j, c', rfl, HL.out, hjc, HOW.out, HB.out⟩
theorem info_pieces : (Try.prog.info? 44).map (fun i => (i.zero, i.size, i.bytes)) = some (some (.agg #[.int .i64 0, .int .i64 0, .int .i64 0]), 3, 24) := by kernel_rfl
set_option maxRecDepth 100000 in
set_option maxHeartbeats 1600000 in
theorem pieces_any (A : Option Addr) (n c : Nat) (L : List P3) (w : World) (hn : L.length = n) (hlen : n ≤ 9223372036854775807) (hA : PcsA w w.heap.size A L) :
    Calls Try.prog 33 #[.slice A n c] w fun e w' => ∃ X k c', e = .returned (.slice X k c') ∧ (L.take 200).length = k ∧ k ≤ c' ∧ w'.ownsRow w.heap.size 44 3 (.slice X k c') k (pcells (L.take 200)) ∧ Below w.heap.size w w' := by
  have HN := hide hn
  have HA := hide hA
  clear hn hA
  go_enter Try.func33, Try.ntmps33
  go_wp2
  go_loopw [3, 8] (fun v i wr => ∃ (k j c' : Nat) (X : Option Addr), k ≤ n ∧ i = .int .i64 k ∧ v = .slice X j c' ∧ j ≤ c' ∧ j ≤ k ∧ j ≤ 200 ∧ Hid (((L.take 200).take k).length = j) ∧ Hid (wr.ownsRow w.heap.size 44 3 (.slice X j c') j (pcells ((L.take 200).take k))) ∧ Below w.heap.size w wr) (fun _ i _ => n - (intOf i).toNat)
  case atStart => exact ⟨0, 0, 0, none, Nat.zero_le _, rfl, rfl, Nat.le_refl _, Nat.le_refl _, by omega, hide (by simp), hide (by rw [List.take_zero]; exact World.ownsRow_nil _ _ _ _), Below.refl _ _⟩
  case round =>
    obtain ⟨k, j, c', X, hk, rfl, rfl, hjc, hjk, hj9, HL, HOW, hbel⟩ := hrel
    have HB := hide hbel
    by_cases hlt : k < n
    · obtain ⟨bj, oj, pj, pf, pt, rfl, hbj, hc0, hc1, hc2,hx⟩ := (HA.out.below hbel).at_ (k := k) (by rw [HN.out]; exact hlt)
      have HX := hide hx.out
      have hkn : (k : Int) < (n : Int) := by omega
      have HBA : Hid (∀ o, Below w.heap.size w (wr.alloc o)) := fun o => HB.out.alloc HB.out.size _
      clear hbel hx
      by_cases h10 : k < 200
      · have h10' : (k : Int) < 200 := by omega
        have hj10 : j < 200 := by have := HL.out; rw [List.length_take, List.length_take, HN.out] at this; omega
        have hone : ∀ y9 ∈ ([.int .i64 pj, .int .i64 pf, .int .i64 pt] : List Value), y9.oneCell' = true := by intro y9 hu; simp at hu; rcases hu with rfl | rfl | rfl <;> rfl
        have HST : Hid ((L.take 200).take (k + 1) = ((L.take 200).take k) ++ [⟨pj, pf, pt⟩]) := by
          rw [List.take_succ_eq_append_getElem (by rw [List.length_take, HN.out]; omega)]
          congr 1
          rw [List.getElem_take, getD_cons_of (d := p0) (by rw [HN.out]; omega), HX.out]
        go_wp2_with (at_builtin; refine wpList_appS (w0 := wr.alloc (.cells #[.int .i64 pj, .int .i64 pf, .int .i64 pt] 36)) _ _ 23 44 (.agg #[.int .i64 0, .int .i64 0, .int .i64 0]) 3 24 rfl rfl Try.underlying23 info_pieces rfl (by decide) w.heap.size (.slice X j c') j (pcells ((L.take 200).take k)) [.int .i64 pj, .int .i64 pf, .int .i64 pt] rfl rfl (by simp [Act.eval]) rfl ⟨_, rfl⟩ (HOW.out.alloc _) hone (by omega) (by omega) (HBA.out _).size ?_; intro ga cg w7 hown1 hd1 hd2 hg1 hgl2 hgrow; have HOW7 := hide hown1; have HG := hide hgrow; clear hown1 hgrow)
        go_roundw
        case rel =>
          refine ⟨k + 1, j + 1, cg, some ⟨ga, 0, none⟩, by omega, by go_num, rfl, hd1, by omega, by omega, hide ?_, hide ?_, (HBA.out _).grown HG.out (HBA.out _).size (fun q hq => (own_ltS HOW.out q hq).1)⟩
          · rw [HST.out, List.length_append, HL.out]; rfl
          · rw [HST.out, pcells_snoc]; exact HOW7.out
        case measure => simp [intOf] <;> omega
      · have h10' : ¬ (k : Int) < 200 := by omega
        have HST : Hid ((L.take 200).take (k + 1) = (L.take 200).take k) := by
          rw [List.take_of_length_le (l := L.take 200) (by rw [List.length_take]; omega), List.take_of_length_le (l := L.take 200) (by rw [List.length_take]; omega)]; exact hide rfl
        have hd : decide ((k : Int) < 200) = false := decide_eq_false h10'
        go_wp2
        go_roundw
        case rel => exact ⟨k + 1, j, c', X, by omega, by go_num, rfl, hjc, by omega, hj9, hide (by rw [HST.out]; exact HL.out), hide (by rw [HST.out]; exact HOW.out.alloc _), HBA.out _⟩
        case measure => simp [intOf] <;> omega
    · obtain rfl : n = k := by omega
      have HALL : Hid ((L.take 200).take n = L.take 200) := List.take_of_length_le (by rw [List.length_take, HN.out]; omega)
      rw [HALL.out] at HL HOW
      go_wp2
      go_ret
      exact ⟨X, j, c', rfl, HL.out, hjc, HOW.out, HB.out⟩
end Go.Proofs.Ytiadineakhcclaa
