/-
  turns: isStable, of plans with as many shifts as hands and one place each.
-/
import Derived.Test.YtgognkofnegobaaTurnsE
namespace Go.Proofs.Ytgognkofnegobaa
open Go.RowKit
set_option linter.unusedVariables false
set_option linter.unusedSimpArgs false

/-- Is the matching stable? -/
noncomputable def stabB (H S : List (List Nat)) (n : Nat) (m : List Int) : Bool := noDupB m n && @decide (NoBlk H S m n n 0) (Classical.propDecidable _)

set_option maxRecDepth 100000 in
set_option maxHeartbeats 1600000 in
theorem isStable_any (HA SA PA : Option Addr) (n hc sc pc : Nat) (H S : List (List Nat)) (M : Option Addr) (mc : Nat) (m : List Int) (w : World) (hn : n ≤ 4) (hn1 : 1 ≤ n) (hP : PlanA w w.heap.size HA SA PA n H S) (hm : MOk m n) (hM : IntsA w w.heap.size M m) :
    Calls Try.prog 65 #[.agg #[.slice HA n hc, .slice SA n sc, .slice PA n pc], .slice M n mc] w fun e w' => e = .returned (.bool (stabB H S n m)) ∧ Below w.heap.size w w' := by
  obtain ⟨w1, hw1⟩ : ∃ w1, w1 = w.alloc (.cells #[.slice HA n hc, .slice SA n sc, .slice PA n pc] 33) := ⟨_, rfl⟩
  have hb1 : Below w.heap.size w w1 := by subst hw1; exact (Below.refl _ _).alloc (Nat.le_refl _) _
  have hbx : w1.heap[w.heap.size]? = some (.cells #[.slice HA n hc, .slice SA n sc, .slice PA n pc] 33 (0, 0)) := by rw [hw1]; exact alloc_new _ _ _ rfl
  have hlt1 : w.heap.size < w1.heap.size := lt_of_block hbx
  have HQ : Hid (∀ w', Below w1.heap.size w1 w' → w'.cell? ⟨w.heap.size, 0, none⟩ = some (.slice HA n hc) ∧ w'.cell? ⟨w.heap.size, 1, none⟩ = some (.slice SA n sc) ∧ w'.cell? ⟨w.heap.size, 2, none⟩ = some (.slice PA n pc)) := fun w' hb => by
    have h := (hb.block _ (lt_of_block hbx)).trans hbx
    have q0 := blk_cell h 0
    have q1 := blk_cell h 1
    have q2 := blk_cell h 2
    simp only [List.getElem?_toArray, List.getElem?_cons_zero, List.getElem?_cons_succ] at q0 q1 q2
    exact ⟨q0, q1, q2⟩
  have HMT := hide (matching_any HA SA PA n hc sc pc H S M mc m w1 hn hn1 (hP.next hb1) hm (hM.next hb1))
  have HBL := hide (fun w' (hb : Below w.heap.size w w') => blocks_any HA SA PA n hc sc pc H S M mc m w' hn hn1 (hP.next hb) hm (hM.next hb))
  have HB := hide hb1
  have HW := hide hw1
  obtain ⟨q0, q1, q2⟩ := HQ.out w1 (Below.refl _ _)
  clear hP hM hm hw1 hbx hb1
  obtain ⟨b, hbb⟩ : ∃ b, noDupB m n = b := ⟨_, rfl⟩
  have HST : Hid (stabB H S n m = (b && @decide (NoBlk H S m n n 0) (Classical.propDecidable _))) := by show stabB H S n m = _; rw [stabB, hbb]
  rw [hbb] at HMT
  clear hbb
  go_enter Try.func65, Try.ntmps65
  go_upto_region 1 with (fail)
  rw [← HW.out]
  cases b
  · go_wp2_with (first
      | (go_at_call 89; refine (HMT.out).mono ?_; rintro e w2 ⟨rfl, hb2⟩; have HB2 := hide hb2; obtain ⟨y0, y1, y2⟩ := HQ.out w2 hb2; clear hb2))
    go_ret
    exact ⟨by rw [HST.out]; rfl, HB.out.trans (HB2.out.mono HB.out.size)⟩
  · go_wp2_with (first
      | (go_at_call 89; refine (HMT.out).mono ?_; rintro e w2 ⟨rfl, hb2⟩; have HB2 := hide hb2; obtain ⟨y0, y1, y2⟩ := HQ.out w2 hb2; clear hb2)
      | (go_at_call 90; refine (HBL.out _ (HB.out.trans (HB2.out.mono HB.out.size))).mono ?_; rintro e w3 ⟨X, j, c', rfl, hj, hb3⟩; have HB3 := hide hb3; have HJ := hide hj; clear hb3 hj))
    go_ret
    refine ⟨?_, (HB.out.trans (HB2.out.mono HB.out.size)).trans (HB3.out.mono (HB.out.trans (HB2.out.mono HB.out.size)).size)⟩
    rw [HST.out]
    by_cases e : j = 0
    · rw [@decide_eq_true _ (Classical.propDecidable _) (HJ.out.1 e)]; subst e; rfl
    · rw [@decide_eq_false _ (Classical.propDecidable _) (fun h => e (HJ.out.2 h))]
      have : ((j : Int) == 0) = false := by simp; omega
      first | rfl | (rw [this]; rfl) | (simp [this]) | (simp [e])
end Go.Proofs.Ytgognkofnegobaa
