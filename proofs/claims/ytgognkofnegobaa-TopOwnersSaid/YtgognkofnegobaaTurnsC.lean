/-
  turns: hands, of plans with as many shifts as hands and one place each.
-/
import Derived.Test.YtgognkofnegobaaTurnsB
namespace Go.Proofs.Ytgognkofnegobaa
open Go.RowKit
set_option linter.unusedVariables false
set_option linter.unusedSimpArgs false

/-- The hands of a shift, the best first. -/
def handsN (S : List (List Nat)) (m : List Int) (s : Nat) : List Nat := (S.getD s []).filter fun h => m.getD h 0 == (s : Int)
def handsTo (S : List (List Nat)) (m : List Int) (s k : Nat) : List Nat := ((S.getD s []).take k).filter fun h => m.getD h 0 == (s : Int)
theorem handsTo_succ {S : List (List Nat)} {m : List Int} {s k : Nat} (h : k < (S.getD s []).length) : handsTo S m s (k + 1) = handsTo S m s k ++ if m.getD ((S.getD s []).getD k 0) 0 == (s : Int) then [(S.getD s []).getD k 0] else [] := by
  have e : (S.getD s [])[k] = (S.getD s []).getD k 0 := by rw [List.getD_eq_getElem?_getD (l := S.getD s []), List.getElem?_eq_getElem h]; rfl
  rw [handsTo, List.take_succ_eq_append_getElem h, List.filter_append, e]
  congr 1
  by_cases hc : (m.getD ((S.getD s []).getD k 0) 0 == (s : Int)) = true
  · rw [if_pos hc]; simp only [List.filter, hc]
  · rw [if_neg hc]; simp only [List.filter]; rw [Bool.not_eq_true _ |>.mp hc]
theorem handsTo_le (S : List (List Nat)) (m : List Int) (s k : Nat) : (handsTo S m s k).length ≤ k := by
  rw [handsTo]
  exact Nat.le_trans (List.length_filter_le _ _) (by rw [List.length_take]; omega)

set_option maxRecDepth 100000 in
set_option maxHeartbeats 1600000 in
theorem hands_any (HA SA PA : Option Addr) (n hc sc pc : Nat) (H S : List (List Nat)) (M : Option Addr) (mc : Nat) (m : List Int) (s : Nat) (w : World) (hn : n ≤ 4) (hs : s < n) (hP : PlanA w w.heap.size HA SA PA n H S) (hm : m.length = n) (hM : IntsA w w.heap.size M m) :
    Calls Try.prog 101 #[.agg #[.slice HA n hc, .slice SA n sc, .slice PA n pc], .slice M n mc, .int .i64 (s : Nat)] w fun e w' => ∃ X k c', e = .returned (.slice X k c') ∧ (handsN S m s).length = k ∧ k ≤ c' ∧ IntsA w' w'.heap.size X (up (handsN S m s)) ∧ Below w.heap.size w w' := by
  obtain ⟨w1, hw1⟩ : ∃ w1, w1 = w.alloc (.cells #[.slice HA n hc, .slice SA n sc, .slice PA n pc] 33) := ⟨_, rfl⟩
  have hb1 : Below w.heap.size w w1 := by subst hw1; exact (Below.refl _ _).alloc (Nat.le_refl _) _
  have hbx : w1.heap[w.heap.size]? = some (.cells #[.slice HA n hc, .slice SA n sc, .slice PA n pc] 33 (0, 0)) := by rw [hw1]; exact alloc_new _ _ _ rfl
  have q1 := blk_cell hbx 1
  simp only [List.getElem?_toArray, List.getElem?_cons_zero, List.getElem?_cons_succ] at q1
  have hP1 := hP.next hb1
  have hM1 := hM.next hb1
  obtain ⟨b2, o2, A2, n2, c2, rfl, hb2, hc2, hx2, hle2, hI2⟩ := hP1.s.at_ (k := s) (by rw [upp_length, hP.sok.len]; exact hs)
  rw [upp_getD] at hx2 hI2
  have ho := hP.sok.rows s hs
  obtain rfl : n = n2 := by have := hx2.out; rw [up_length, ho.len] at this; exact this
  have HI := hide hI2
  have HO := hide ho
  have HM := hide hM1
  have HML := hide hm
  have hsn : (s : Int) < (n : Int) := by omega
  have HB := hide hb1
  have HW := hide hw1
  clear hI2 hx2 ho hP hP1 hM hM1 hw1 hbx hb1 hm
  go_enter Try.func101, Try.ntmps101
  go_upto_region 1 with (fail)
  rw [← HW.out]
  go_wp2
  clear q1 hc2
  go_loopw [7, 16] (fun v i wr => ∃ (k j c' : Nat) (X : Option Addr), k ≤ n ∧ i = .int .i64 k ∧ v = .slice X j c' ∧ j ≤ c' ∧ j ≤ k ∧ Hid ((handsTo S m s k).length = j) ∧ Hid (wr.ownsRow w1.heap.size 3 1 (.slice X j c') j ((up (handsTo S m s k)).map (Value.int .i64))) ∧ Below w1.heap.size w1 wr) (fun _ i _ => n - (intOf i).toNat)
  case atStart => exact ⟨0, 0, 0, none, Nat.zero_le _, rfl, rfl, Nat.le_refl _, Nat.le_refl _, hide rfl, hide (World.ownsRow_nil _ _ _ _), Below.refl _ _⟩
  case round =>
    obtain ⟨k, j, c', X, hk, rfl, rfl, hjc, hjk, HL, HOW, hbel⟩ := hrel
    have HBE := hide hbel
    by_cases hlt : k < n
    · obtain ⟨b3, o3, g', rfl, hb3, hc3, hg⟩ := (HI.out.below hbel).at_ (k := k) (by rw [up_length, HO.out.len]; exact hlt)
      have hg' : g' = (((S.getD s []).getD k 0 : Nat) : Int) := by rw [← up_getD]; exact hg.out.symm
      subst hg'
      have hgn := HO.out.getD_lt hlt
      have hst := handsTo_succ (S := S) (m := m) (s := s) (k := k) (by rw [HO.out.len]; exact hlt)
      obtain ⟨gg, hgg⟩ : ∃ gg, (S.getD s []).getD k 0 = gg := ⟨_, rfl⟩
      rw [hgg] at hc3 hgn hst
      obtain ⟨b4, o4, y, rfl, hb4, hc4, hy⟩ := (HM.out.below hbel).at_ (k := gg) (by rw [HML.out]; exact hgn)
      rw [hy.out] at hst
      have hgl : (gg : Int) < (n : Int) := by omega
      clear hg hy hgg hbel
      by_cases e : y = (s : Int)
      · have eb : (y == (s : Int)) = true := by simp [e]
        rw [if_pos eb] at hst
        have HST := hide hst
        clear hst e
        go_wp2_with (at_builtin; refine wpList_app1 (w0 := wr) _ _ 24 3 (.int .i64 0) 8 rfl rfl Try.underlying24 info_int rfl w1.heap.size (.slice X j c') j _ (.int .i64 (gg : Nat)) rfl rfl rfl ⟨_, rfl⟩ HOW.out rfl (by omega) (by omega) (by have := HBE.out.size; omega) ?_; intro g2 cg w3 hown1 hd1 hd2 hg1 hgl2 hgrow; have HOW1 := hide hown1; have HG := hide hgrow; clear hown1 hgrow)
        go_roundw
        case rel =>
          refine ⟨k + 1, j + 1, cg, some ⟨g2, 0, none⟩, by omega, by go_num, rfl, hd1, by omega, hide ?_, hide ?_, HBE.out.grown HG.out HBE.out.size (fun q hq => (own_lt HOW.out q hq).1)⟩
          · rw [HST.out, List.length_append, HL.out]; rfl
          · rw [HST.out]
            have e9 : (up (handsTo S m s k ++ [gg])).map (Value.int .i64) = (up (handsTo S m s k)).map (Value.int .i64) ++ [Value.int .i64 (gg : Int)] := by simp [up]
            rw [e9]; exact HOW1.out
        case measure => simp [intOf] <;> omega
      · have eb : (y == (s : Int)) = false := by simp [e]
        rw [if_neg (by simp [e]), List.append_nil] at hst
        have HST := hide hst
        clear hst e
        go_wp2
        go_roundw
        case rel => exact ⟨k + 1, j, c', X, by omega, by go_num, rfl, hjc, by omega, hide (by rw [HST.out]; exact HL.out), hide (by rw [HST.out]; exact HOW.out), HBE.out⟩
        case measure => simp [intOf] <;> omega
    · obtain rfl : n = k := by omega
      have hall : handsTo S m s n = handsN S m s := by rw [handsTo, handsN, List.take_of_length_le (by rw [HO.out.len]; exact Nat.le_refl _)]
      rw [hall] at HL HOW
      have HI9 := hide (ints_of_own HOW.out)
      clear hall
      go_wp2
      go_ret
      exact ⟨X, j, c', rfl, HL.out, hjc, HI9.out, HB.out.trans (HBE.out.mono HB.out.size)⟩
end Go.Proofs.Ytgognkofnegobaa
