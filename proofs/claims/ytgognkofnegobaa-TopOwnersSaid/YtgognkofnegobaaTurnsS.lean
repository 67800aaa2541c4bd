/-
  turns: stable and Stable, of plans with as many shifts as hands and one place each.
-/
import Derived.Test.YtgognkofnegobaaTurnsI
import Derived.Test.YtgognkofnegobaaTurnsB
import Derived.Laws.EntriesVeiled
namespace Go.Proofs.Ytgognkofnegobaa
open Go.RowKit
set_option linter.unusedVariables false
set_option linter.unusedSimpArgs false

/-- What Stable gives. -/
def StabPost (n : Nat) (H S : List (List Nat)) (w w' : World) (X : Option Addr) (j c : Nat) : Prop :=
  ((enumM n n []).filter (stabB H S n)).length = j ∧ j ≤ c ∧ RowsA w' w'.heap.size X ((enumM n n []).filter (stabB H S n)) ∧ Below w.heap.size w w'

set_option maxRecDepth 100000 in
set_option maxHeartbeats 1600000 in
theorem stable_any (HA SA PA : Option Addr) (n hc sc pc : Nat) (H S : List (List Nat)) (w : World) (hn : n ≤ 4) (hn1 : 1 ≤ n) (hP : PlanA w w.heap.size HA SA PA n H S) :
    Calls Try.prog 37 #[.agg #[.slice HA n hc, .slice SA n sc, .slice PA n pc]] w fun e w' => ∃ X j c, e = .returned (.slice X j c) ∧ StabPost n H S w w' X j c := by
  have hmk := run_make_row' (P := Try.prog) 24 3 (.int .i64 0) 8 Try.underlying24 info_int rfl .i64 .i64 n (by omega) (by omega)
  obtain ⟨w2, hw2⟩ : ∃ w2, w2 = (w.alloc (.cells #[.slice HA n hc, .slice SA n sc, .slice PA n pc] 33)).alloc (.cells #[.slice none 0 0] 22) := ⟨_, rfl⟩
  have hs2 : w2.heap.size = w.heap.size + 2 := by subst hw2; simp
  obtain ⟨w5, hw5⟩ : ∃ w5, w5 = ((w2.alloc (.cells (madeCells #[.int .i64 0] n) 3)).alloc (.cells #[.slice (some ⟨w.heap.size + 1 + 1, 0, none⟩) n n] 24)).alloc (.cells #[.nilFunc] 75) := ⟨_, rfl⟩
  have hs5 : w5.heap.size = w.heap.size + 5 := by subst hw5; simp [hs2]
  have hb2 : Below w.heap.size w w2 := by subst hw2; exact ((Below.refl _ _).alloc (Nat.le_refl _) _).alloc (by simp) _
  have hb5 : Below (w.heap.size + 2) w2 w5 := by
    subst hw5
    exact (((Below.refl _ _).alloc (by omega) _).alloc (by simp [hs2]) _).alloc (by simp [hs2]) _
  have h50 : w5.heap[w.heap.size]? = some (.cells #[.slice HA n hc, .slice SA n sc, .slice PA n pc] 33 (0, 0)) := by
    refine (hb5.block _ (by omega)).trans ?_
    subst hw2
    exact alloc_old _ _ _ (by simp) (alloc_new _ _ _ rfl)
  have h51 : w5.heap[w.heap.size + 1]? = some (.cells #[.slice none 0 0] 22 (0, 0)) := by
    refine (hb5.block _ (by omega)).trans ?_
    subst hw2
    exact alloc_new _ _ _ (by simp)
  have h52 : w5.rowIs (w.heap.size + 2) 3 n (fun _ => .int .i64 0) := by
    have h1 : (w2.alloc (.cells (madeCells #[.int .i64 0] n) 3)).rowIs w2.heap.size 3 n (fun _ => .int .i64 0) := World.rowIs_made w2 _ n _
    rw [hs2] at h1
    refine h1.of_block ?_
    subst hw5
    exact (((Below.refl (w2.heap.size + 1) _).alloc (by simp) _).alloc (by simp) _).block _ (by omega)
  have h53 : w5.heap[w.heap.size + 3]? = some (.cells #[.slice (some ⟨w.heap.size + 2, 0, none⟩) n n] 24 (0, 0)) := by
    subst hw5
    exact alloc_old _ _ _ (by simp [hs2]) (alloc_new _ _ _ (by simp [hs2]))
  have h54 : w5.heap[w.heap.size + 4]? = some (.cells #[.nilFunc] 75 (0, 0)) := by
    subst hw5
    exact alloc_new _ _ _ (by simp [hs2])
  obtain ⟨w0, hw0⟩ : ∃ w0, w0 = w5.setCell ⟨w.heap.size + 1 + 1 + 1 + 1, 0, none⟩ (.func (.func 64) #[] #[.pointer (some ⟨w.heap.size + 1 + 1 + 1, 0, none⟩), .pointer (some ⟨w.heap.size, 0, none⟩), .pointer (some ⟨w.heap.size + 1, 0, none⟩), .pointer (some ⟨w.heap.size + 1 + 1 + 1 + 1, 0, none⟩)]) := ⟨_, rfl⟩
  have hb : Below w.heap.size w w0 := by
    subst hw0
    exact (hb2.trans (hb5.mono (by omega))).setCell (by show w.heap.size ≤ w.heap.size + 1 + 1 + 1 + 1; omega) _
  have far : ∀ g, g ≠ w.heap.size + 4 → w0.heap[g]? = w5.heap[g]? := fun g hg => by rw [hw0]; exact blk_far _ (by omega)
  have hM0 : StM w0 w.heap.size HA SA PA n hc sc pc H S (List.replicate n 0) [] none 0 0 [] := by
    refine ⟨hP.below hb, (far _ (by omega)).trans h50, (far _ (by omega)).trans h51, ?_, (far _ (by omega)).trans h53, ?_, World.ownsRow_nil _ _ _ _, RowVals.nil_, fun i hi => absurd hi (by simp), rfl, Nat.le_refl _, by simp⟩
    · have h2 : (fun i => Value.int .i64 ((List.replicate n (0 : Int)).getD i 0)) = fun _ => Value.int .i64 0 := by
        funext i
        rw [List.getD_eq_getElem?_getD, List.getElem?_replicate]
        split <;> rfl
      rw [h2]
      exact h52.of_block (far _ (by omega))
    · have := blk_set h54 0 (.func (.func 64) #[] #[.pointer (some ⟨w.heap.size + 3, 0, none⟩), .pointer (some ⟨w.heap.size, 0, none⟩), .pointer (some ⟨w.heap.size + 1, 0, none⟩), .pointer (some ⟨w.heap.size + 4, 0, none⟩)])
      rw [hw0]
      simpa using this
  have hpw : 5 ^ n ≤ 1000 := Nat.le_trans (Nat.pow_le_pow_right (by decide) hn) (by decide)
  have hT := try_any w.heap.size HA SA PA n hc sc pc H S hn hn1 n 0 (List.replicate n 0) [] [] none 0 0 [] w0 (by omega) rfl ⟨rfl, fun i hi => absurd hi (by omega)⟩ (by simpa using hpw) hM0
  rw [show (((0 : Nat)) : Int) = 0 from rfl] at hT
  have HT := hide hT
  have HB := hide hb
  have HW2 := hide hw2
  have HW5 := hide hw5
  have HW0 := hide hw0
  have n4 := blk_cell h54 0
  have f4 := blk_free h54 0
  have t0 := blk_cell hM0.tb 0
  simp only [List.getElem?_toArray, List.getElem?_cons_zero] at n4 t0
  have hl0 : w.heap.size + 4 < w0.heap.size := lt_of_block hM0.tb
  have n5 : w5.cell? ⟨w.heap.size + 1 + 1 + 1 + 1, 0, none⟩ = some .nilFunc := n4
  have f5 : w5.frozen? ⟨w.heap.size + 1 + 1 + 1 + 1, 0, none⟩ = false := f4
  have t5 : w0.cell? ⟨w.heap.size + 1 + 1 + 1 + 1, 0, none⟩ = some (.func (.func 64) #[] #[.pointer (some ⟨w.heap.size + 3, 0, none⟩), .pointer (some ⟨w.heap.size, 0, none⟩), .pointer (some ⟨w.heap.size + 1, 0, none⟩), .pointer (some ⟨w.heap.size + 4, 0, none⟩)]) := t0
  clear n4 f4 t0 hM0 hT hb hpw hP hw2 hw5 hw0 hs2 hs5 hb2 hb5 h50 h51 h52 h53 h54 far
  go_enter Try.func37, Try.ntmps37
  go_upto_region 4 with (fail)
  rw [← HW2.out, ← HW5.out]
  go_upto_region 5 with (fail)
  rw [← HW0.out]
  go_wp2_with fail
  refine (HT.out).mono ?_
  rintro e w' ⟨q, X, j, c, vs, rfl, _, hM, hb'⟩
  have o0 := blk_cell hM.ob 0
  simp only [List.getElem?_toArray, List.getElem?_cons_zero, List.getElem?_cons_succ, List.nil_append] at o0
  have hlt : w.heap.size + 1 < w'.heap.size := lt_of_block hM.ob
  have HM := hide hM
  have HB2 := hide hb'
  clear hM hb' hmk HT
  go_wp2
  go_ret
  have hM := HM.out
  refine ⟨X, j, c, rfl, ?_, hM.jc, ?_, HB.out.trans HB2.out⟩
  · rw [← hM.jl]; rfl
  · exact rows_of hM.rv hM.own

set_option maxRecDepth 100000 in
set_option maxHeartbeats 1600000 in
theorem Stable_any (HA SA PA : Option Addr) (n hc sc pc : Nat) (H S : List (List Nat)) (w : World) (hn : n ≤ 4) (hn1 : 1 ≤ n) (hP : PlanA w w.heap.size HA SA PA n H S) :
    Calls Try.prog 17 #[.agg #[.slice HA n hc, .slice SA n sc, .slice PA n pc]] w fun e w' => ∃ X j c, e = .returned (.tuple #[.slice X j c, .int .i64 0]) ∧ StabPost n H S w w' X j c := by
  obtain ⟨w1, hw1⟩ : ∃ w1, w1 = w.alloc (.cells #[.slice HA n hc, .slice SA n sc, .slice PA n pc] 33) := ⟨_, rfl⟩
  have hb1 : Below w.heap.size w w1 := by subst hw1; exact (Below.refl _ _).alloc (Nat.le_refl _) _
  have hbx : w1.heap[w.heap.size]? = some (.cells #[.slice HA n hc, .slice SA n sc, .slice PA n pc] 33 (0, 0)) := by rw [hw1]; exact alloc_new _ _ _ rfl
  have hP1 := hP.next hb1
  have HQ : Hid (∀ w', Below w1.heap.size w1 w' → w'.cell? ⟨w.heap.size, 0, none⟩ = some (.slice HA n hc) ∧ w'.cell? ⟨w.heap.size, 1, none⟩ = some (.slice SA n sc) ∧ w'.cell? ⟨w.heap.size, 2, none⟩ = some (.slice PA n pc)) := fun w' hb => by
    have h := (hb.block _ (lt_of_block hbx)).trans hbx
    have q0 := blk_cell h 0
    have q1 := blk_cell h 1
    have q2 := blk_cell h 2
    simp only [List.getElem?_toArray, List.getElem?_cons_zero, List.getElem?_cons_succ] at q0 q1 q2
    exact ⟨q0, q1, q2⟩
  have HV := hide (tvalid_any HA SA PA n hc sc pc H S w1 hn hn1 hP1)
  have HS := hide (fun w' (hb : Below w1.heap.size w1 w') => stable_any HA SA PA n hc sc pc H S w' hn hn1 (hP1.next hb))
  have HB := hide hb1
  have HW := hide hw1
  have hl1 : w.heap.size < w1.heap.size := lt_of_block hbx
  obtain ⟨q0, q1, q2⟩ := HQ.out w1 (Below.refl _ _)
  clear hP hP1 hw1 hb1 hbx
  go_enter Try.func17, Try.ntmps17
  go_upto_region 1 with (fail)
  rw [← HW.out]
  go_wp2_with fail
  refine (HV.out).mono ?_
  rintro e w2 ⟨rfl, hb2⟩
  have HB2 := hide hb2
  obtain ⟨r0, r1, r2⟩ := HQ.out w2 hb2
  have hl2 : w.heap.size < w2.heap.size := by have := hb2.size; omega
  clear hb2 q0 q1 q2
  go_wp2_with fail
  refine (HS.out _ HB2.out).mono ?_
  rintro e w3 ⟨X, j, c, rfl, h1, h2, h3, h4⟩
  have HH := hide (show StabPost n H S w w3 X j c from ⟨h1, h2, h3, HB.out.trans ((HB2.out.trans (h4.mono HB2.out.size)).mono HB.out.size)⟩)
  clear h1 h2 h3 h4 r0 r1 r2
  go_wp2
  go_ret2
  exact ⟨X, j, c, rfl, HH.out⟩
end Go.Proofs.Ytgognkofnegobaa
