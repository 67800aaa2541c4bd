/-
  turns: matching, of plans with as many shifts as hands and one place each.
-/
import Derived.Test.YtgognkofnegobaaTurnsC
namespace Go.Proofs.Ytgognkofnegobaa
open Go.RowKit
set_option linter.unusedVariables false
set_option linter.unusedSimpArgs false

/-- A hand's shift, or none. -/
structure MOk (m : List Int) (n : Nat) : Prop where
  len : m.length = n
  at_ : ∀ i, i < n → m.getD i 0 = -1 ∨ ∃ s : Nat, s < n ∧ m.getD i 0 = (s : Int)
/-- Does one of the first k hands have the shift? -/
def cntM (m : List Int) (k s : Nat) : Nat := if ((List.range k).any fun j => m.getD j 0 == (s : Int)) then 1 else 0
def noDupB (m : List Int) : Nat → Bool
  | 0 => true
  | k + 1 => noDupB m k && (m.getD k 0 == -1 || cntM m k (m.getD k 0).toNat == 0)
theorem cntM_none {m : List Int} {k : Nat} (h : m.getD k 0 = -1) (a : Nat) : cntM m (k + 1) a = cntM m k a := by
  have : ((-1 : Int) == (a : Int)) = false := by simp
  simp only [cntM, List.range_succ, List.any_append, List.any_cons, List.any_nil, h, this, Bool.or_false]
theorem cntM_some {m : List Int} {k s : Nat} (h : m.getD k 0 = (s : Int)) (a : Nat) : cntM m (k + 1) a = if a = s then 1 else cntM m k a := by
  by_cases e : a = s
  · subst e
    simp only [cntM, List.range_succ, List.any_append, List.any_cons, List.any_nil, h, beq_self_eq_true, Bool.or_false, Bool.or_true, if_true]
  · have : ((s : Int) == (a : Int)) = false := by simp; omega
    rw [if_neg e]
    simp only [cntM, List.range_succ, List.any_append, List.any_cons, List.any_nil, h, this, Bool.or_false]
theorem cntM_01 (m : List Int) (k a : Nat) : cntM m k a = 0 ∨ cntM m k a = 1 := by
  rw [cntM]; split
  · exact .inr rfl
  · exact .inl rfl
theorem noDupB_no {m : List Int} {k s n : Nat} (h : m.getD k 0 = (s : Int)) (hc : cntM m k s = 1) (hk : k < n) : noDupB m n = false := by
  induction n with
  | zero => omega
  | succ n ih =>
    by_cases e : k = n
    · subst e
      have h1 : ((s : Int) == -1) = false := by simp
      show (noDupB m k && (m.getD k 0 == -1 || cntM m k (m.getD k 0).toNat == 0)) = false
      rw [h, Int.toNat_natCast, hc, h1]; simp
    · show (noDupB m n && _) = false
      rw [ih (by omega)]; rfl

set_option maxRecDepth 100000 in
set_option maxHeartbeats 1600000 in
theorem matching_any (HA SA PA : Option Addr) (n hc sc pc : Nat) (H S : List (List Nat)) (M : Option Addr) (mc : Nat) (m : List Int) (w : World) (hn : n ≤ 4) (hn1 : 1 ≤ n) (hP : PlanA w w.heap.size HA SA PA n H S) (hm : MOk m n) (hM : IntsA w w.heap.size M m) :
    Calls Try.prog 89 #[.agg #[.slice HA n hc, .slice SA n sc, .slice PA n pc], .slice M n mc] w fun e w' => e = .returned (.bool (noDupB m n)) ∧ Below w.heap.size w w' := by
  obtain ⟨w1, hw1⟩ : ∃ w1, w1 = w.alloc (.cells #[.slice HA n hc, .slice SA n sc, .slice PA n pc] 33) := ⟨_, rfl⟩
  have hb1 : Below w.heap.size w w1 := by subst hw1; exact (Below.refl _ _).alloc (Nat.le_refl _) _
  have hbx : w1.heap[w.heap.size]? = some (.cells #[.slice HA n hc, .slice SA n sc, .slice PA n pc] 33 (0, 0)) := by rw [hw1]; exact alloc_new _ _ _ rfl
  have hlt1 : w.heap.size < w1.heap.size := lt_of_block hbx
  have HQ : Hid (∀ w', Below w1.heap.size w1 w' → w'.cell? ⟨w.heap.size, 0, none⟩ = some (.slice HA n hc) ∧ w'.cell? ⟨w.heap.size, 1, none⟩ = some (.slice SA n sc) ∧ w'.cell? ⟨w.heap.size, 2, none⟩ = some (.slice PA n pc)) := fun w' hb => by
    have h := (hb.block _ (lt_of_block hbx)).trans hbx
    have q0 := blk_cell h 0
    have q1 := blk_cell h 1
    have q2 := blk_cell h 2
    simp only [List.getElem?_toArray, List.getElem?_cons_zero, List.getElem?_cons_succ] at q0 q1 q2
    exact ⟨q0, q1, q2⟩
  have HPO := hide (fun (h s : Nat) (hh : h < n) (hs : s < n) w' (hb : Below w.heap.size w w') => possible_any HA SA PA n hc sc pc H S h s w' hn hh hs (hP.next hb))
  have HPP : Hid (∀ w', Below w1.heap.size w1 w' → IntsA w' w'.heap.size PA (up (List.replicate n 1))) := fun w' hb => (hP.next (hb1.trans (hb.mono hb1.size))).p
  have HMM : Hid (∀ w', Below w1.heap.size w1 w' → IntsA w' w'.heap.size M m) := fun w' hb => hM.next (hb1.trans (hb.mono hb1.size))
  have HPR : Hid (IntsA w w.heap.size PA (up (List.replicate n 1))) := hP.p
  have HMR := hide hM
  have HMO := hide hm
  have hmk := run_make_row' (P := Try.prog) 24 3 (.int .i64 0) 8 Try.underlying24 info_int rfl .i64 .i64 n (by omega) (by omega)
  obtain ⟨w2, hw2⟩ : ∃ w2, w2 = w1.alloc (.cells (madeCells #[.int .i64 0] n) 3) := ⟨_, rfl⟩
  have hr2 : w2.rowIs w1.heap.size 3 n (fun a => .int .i64 (cntM m 0 a : Nat)) := by subst hw2; exact World.rowIs_made w1 (.int .i64 0) n _
  have hb2 : Below w1.heap.size w1 w2 := by subst hw2; exact (Below.refl _ _).alloc (Nat.le_refl _) _
  have HR2 := hide hr2
  have HB2 := hide hb2
  have HB := hide hb1
  have HW := hide hw1
  obtain ⟨q0, q1, q2⟩ := HQ.out w1 (Below.refl _ _)
  clear hP hM hm hw1 hbx hb1 hr2 hb2
  go_enter Try.func89, Try.ntmps89
  go_upto_region 1 with (fail)
  rw [← HW.out]
  go_wp2
  rw [← hw2]
  clear hw2 hmk q0 q1 q2
  go_loopw [20] (fun s wr => ∃ k : Nat, k ≤ n ∧ s = .int .i64 k ∧ Hid (noDupB m k = true) ∧ wr.rowIs w1.heap.size 3 n (fun a => .int .i64 (cntM m k a : Nat)) ∧ Below w1.heap.size w1 wr) (fun s _ => n - (intOf s).toNat)
  case atStart => exact ⟨0, Nat.zero_le _, rfl, hide rfl, HR2.out, HB2.out⟩
  case round =>
    obtain ⟨k, hk, rfl, HND, hr, hb⟩ := hrel
    have HBE := hide hb
    by_cases hlt : k < n
    · obtain ⟨b1, o1, x, rfl, hb1, hc1, hx⟩ := HMR.out.at_ (k := k) (by rw [HMO.out.len]; exact hlt)
      have hc1 := (hb.cell (p := ⟨b1, o1 + k, none⟩) (by show b1 < _; omega)).trans ((HB.out.cell (p := ⟨b1, o1 + k, none⟩) hb1).trans hc1)
      have hkn : (k : Int) < (n : Int) := by omega
      rcases HMO.out.at_ k hlt with hx0 | ⟨s, hs, hx0⟩
      · have HX := hide hx0
        obtain rfl : x = -1 := by rw [← hx.out, hx0]
        have HR := hide hr
        clear hb hx0 hx hr
        go_wp2
        go_roundw
        case rel =>
          refine ⟨k + 1, by omega, by go_num, ?_, HR.out.congr fun a ha => ?_, HBE.out⟩
          · show (noDupB m k && _) = true
            rw [HND.out, HX.out]; rfl
          · show Value.int .i64 (cntM m k a : Nat) = Value.int .i64 (cntM m (k + 1) a : Nat)
            rw [cntM_none HX.out]
        case measure => simp [intOf]; omega
      · have HX := hide hx0
        obtain rfl : x = (s : Int) := by rw [← hx.out, hx0]
        have hsn : (s : Int) < (n : Int) := by omega
        have hs1 : ((s : Int) == -1) = false := by simp
        have hs0 : decide ((s : Int) < 0) = false := decide_eq_false (by omega)
        have hs9 : decide ((n : Int) ≤ (s : Int)) = false := decide_eq_false (by omega)
        obtain ⟨bp, op, p', rfl, hbp, hcp, hp⟩ := HPR.out.at_ (k := s) (by rw [up_length, List.length_replicate]; exact hs)
        obtain rfl : p' = 1 := by
          rw [← hp.out, up_getD, List.getD_eq_getElem?_getD, List.getElem?_replicate, if_pos hs]; rfl
        have hcp := (hb.cell (p := ⟨bp, op + s, none⟩) (by show bp < _; omega)).trans ((HB.out.cell (p := ⟨bp, op + s, none⟩) hbp).trans hcp)
        have hcr := hr.cell hs
        have hfz := hr.frozen s
        have hsz := hb.size
        have hlr := hr.lt
        obtain ⟨hy0, hy1, hy2⟩ := HQ.out wr hb
        have g0 : w.heap.size < wr.heap.size := by omega
        have gc : w1.heap.size < wr.heap.size := hlr
        have gp : bp < wr.heap.size := by omega
        have HC := hide (fun w' (hb' : Below wr.heap.size wr w') => (HPO.out k s hlt hs w' (HB.out.trans ((HBE.out.trans (hb'.mono hsz)).mono HB.out.size))).mono fun e w9 h9 => (⟨h9.1, hb'.trans (h9.2.mono hb'.size)⟩ : e = .returned (.bool true) ∧ Below wr.heap.size wr w9))
        rcases cntM_01 m k s with h01 | h01
        · rw [h01] at hcr
          have HST : Hid (noDupB m (k + 1) = true) := by
            show (noDupB m k && _) = true
            rw [HND.out, HX.out, Int.toNat_natCast, h01]; simp
          have HH := hide h01
          have HR := hide hr
          clear hb hx0 hx hp hr h01
          go_wp2_with fail
          refine wp_region_below (by kernel_rfl) (by kernel_rfl) ?_
          refine wpQuiet_val' (.int .i64 (s : Nat)) (by rfl) (fun w' hw' => by go_simp) ?_
          simp only [put_lit, List.set_cons_succ, List.set_cons_zero]
          refine wpQuiet_val' (.bool false) (by rfl) (fun w' hw' => by go_simp) ?_
          simp only [put_lit, List.set_cons_succ, List.set_cons_zero]
          refine wpQuiet_val' (.bool false) (by rfl) (fun w' hw' => by go_simp) ?_
          simp only [put_lit, List.set_cons_succ, List.set_cons_zero]
          refine wpQuiet_val' (.int .i64 (s : Nat)) (by rfl) (fun w' hw' => by go_simp) ?_
          simp only [put_lit, List.set_cons_succ, List.set_cons_zero]
          refine wpQuiet_val' (.pointer (some ⟨w.heap.size, 1, none⟩)) (by rfl) (fun w' hw' => by go_simp) ?_
          simp only [put_lit, List.set_cons_succ, List.set_cons_zero]
          refine wpQuiet_val' (.slice SA n sc) (by rfl) (fun w' hw' => by have e0 := (hw'.cell (p := ⟨w.heap.size, 1, none⟩) g0).trans hy1; go_simp) ?_
          simp only [put_lit, List.set_cons_succ, List.set_cons_zero]
          refine wpQuiet_val' (.int .i64 n) (by rfl) (fun w' hw' => by go_simp) ?_
          simp only [put_lit, List.set_cons_succ, List.set_cons_zero]
          refine wpQuiet_val' (.bool false) (by rfl) (fun w' hw' => by go_simp) ?_
          simp only [put_lit, List.set_cons_succ, List.set_cons_zero]
          refine wpQuiet_val' (.bool false) (by rfl) (fun w' hw' => by go_simp) ?_
          simp only [put_lit, List.set_cons_succ, List.set_cons_zero]
          refine wpQuiet_val' (.bool false) (by rfl) (fun w' hw' => by go_simp) ?_
          simp only [put_lit, List.set_cons_succ, List.set_cons_zero]
          refine wpQuiet_val' (.agg #[.slice HA n hc, .slice SA n sc, .slice (some ⟨bp, op, none⟩) n pc]) (by rfl) (fun w' hw' => by have e0 := (hw'.cell (p := ⟨w.heap.size, 0, none⟩) g0).trans hy0; have e1 := (hw'.cell (p := ⟨w.heap.size, 1, none⟩) g0).trans hy1; have e2 := (hw'.cell (p := ⟨w.heap.size, 2, none⟩) g0).trans hy2; go_simp) ?_
          simp only [put_lit, List.set_cons_succ, List.set_cons_zero]
          refine wpQuiet_val' (.int .i64 (k : Nat)) (by rfl) (fun w' hw' => by go_simp) ?_
          simp only [put_lit, List.set_cons_succ, List.set_cons_zero]
          refine wpQuiet_val' (.int .i64 (s : Nat)) (by rfl) (fun w' hw' => by go_simp) ?_
          simp only [put_lit, List.set_cons_succ, List.set_cons_zero]
          refine wpQuiet_call' 66 #[.agg #[.slice HA n hc, .slice SA n sc, .slice (some ⟨bp, op, none⟩) n pc], .int .i64 (k : Nat), .int .i64 (s : Nat)] (.bool true) (by rfl) (fun w' hw' => by go_simp) (fun w' hw' => HC.out w' hw') ?_
          simp only [put_lit, List.set_cons_succ, List.set_cons_zero]
          refine wpQuiet_val' (.bool false) (by rfl) (fun w' hw' => by go_simp) ?_
          simp only [put_lit, List.set_cons_succ, List.set_cons_zero]
          refine wpQuiet_val' (.bool false) (by rfl) (fun w' hw' => by go_simp) ?_
          simp only [put_lit, List.set_cons_succ, List.set_cons_zero]
          refine wpQuiet_val' (.bool false) (by rfl) (fun w' hw' => by go_simp) ?_
          simp only [put_lit, List.set_cons_succ, List.set_cons_zero]
          refine wpQuiet_val' (.slice (some ⟨w1.heap.size, 0, none⟩) n n) (by rfl) (fun w' hw' => by go_simp) ?_
          simp only [put_lit, List.set_cons_succ, List.set_cons_zero]
          refine wpQuiet_val' (.int .i64 (s : Nat)) (by rfl) (fun w' hw' => by go_simp) ?_
          simp only [put_lit, List.set_cons_succ, List.set_cons_zero]
          refine wpQuiet_val' (.pointer (some ⟨w1.heap.size, s, none⟩)) (by rfl) (fun w' hw' => by go_simp) ?_
          simp only [put_lit, List.set_cons_succ, List.set_cons_zero]
          refine wpQuiet_val' (.int .i64 0) (by rfl) (fun w' hw' => by have e0 := (hw'.cell (p := ⟨w1.heap.size, s, none⟩) gc).trans hcr; go_simp) ?_
          simp only [put_lit, List.set_cons_succ, List.set_cons_zero]
          refine wpQuiet_val' (.pointer (some ⟨w.heap.size, 2, none⟩)) (by rfl) (fun w' hw' => by go_simp) ?_
          simp only [put_lit, List.set_cons_succ, List.set_cons_zero]
          refine wpQuiet_val' (.slice (some ⟨bp, op, none⟩) n pc) (by rfl) (fun w' hw' => by have e0 := (hw'.cell (p := ⟨w.heap.size, 2, none⟩) g0).trans hy2; go_simp) ?_
          simp only [put_lit, List.set_cons_succ, List.set_cons_zero]
          refine wpQuiet_val' (.int .i64 (s : Nat)) (by rfl) (fun w' hw' => by go_simp) ?_
          simp only [put_lit, List.set_cons_succ, List.set_cons_zero]
          refine wpQuiet_val' (.pointer (some ⟨bp, op + (s : Nat), none⟩)) (by rfl) (fun w' hw' => by go_simp) ?_
          simp only [put_lit, List.set_cons_succ, List.set_cons_zero]
          refine wpQuiet_val' (.int .i64 1) (by rfl) (fun w' hw' => by have e0 := (hw'.cell (p := ⟨bp, op + s, none⟩) gp).trans hcp; go_simp) ?_
          simp only [put_lit, List.set_cons_succ, List.set_cons_zero]
          refine wpQuiet_val' (.bool false) (by rfl) (fun w' hw' => by go_simp) ?_
          simp only [put_lit, List.set_cons_succ, List.set_cons_zero]
          refine wpQuiet_val' (.bool false) (by rfl) (fun w' hw' => by go_simp) ?_
          simp only [put_lit, List.set_cons_succ, List.set_cons_zero]
          refine wpQuiet_nil ?_
          intro w9 hb9
          have hr9 := hide (HR.out.of_block (hb9.block _ gc))
          have hcr9 := (hb9.cell (p := ⟨w1.heap.size, s, none⟩) gc).trans hcr
          have hfz9 := hr9.out.frozen s
          have hb99 := hide (HBE.out.trans (hb9.mono hsz))
          clear hb9
          go_wp2
          go_roundw
          case rel =>
            refine ⟨k + 1, by omega, by go_num, HST, (hr9.out.set s (.int .i64 1)).congr fun a ha => ?_, hb99.out.setCell (by show w1.heap.size ≤ w1.heap.size; omega) _⟩
            show (if a = s then Value.int .i64 1 else .int .i64 (cntM m k a : Nat)) = .int .i64 (cntM m (k + 1) a : Nat)
            rw [cntM_some HX.out]
            by_cases e : a = s
            · rw [if_pos e, if_pos e]; rfl
            · rw [if_neg e, if_neg e]
          case measure => simp [intOf]; omega
        · rw [h01] at hcr
          have HST := hide (noDupB_no HX.out h01 hlt)
          clear hb hx0 hx hp hr h01
          go_wp2_with fail
          refine wp_region_below (by kernel_rfl) (by kernel_rfl) ?_
          refine wpQuiet_val' (.int .i64 (s : Nat)) (by rfl) (fun w' hw' => by go_simp) ?_
          simp only [put_lit, List.set_cons_succ, List.set_cons_zero]
          refine wpQuiet_val' (.bool false) (by rfl) (fun w' hw' => by go_simp) ?_
          simp only [put_lit, List.set_cons_succ, List.set_cons_zero]
          refine wpQuiet_val' (.bool false) (by rfl) (fun w' hw' => by go_simp) ?_
          simp only [put_lit, List.set_cons_succ, List.set_cons_zero]
          refine wpQuiet_val' (.int .i64 (s : Nat)) (by rfl) (fun w' hw' => by go_simp) ?_
          simp only [put_lit, List.set_cons_succ, List.set_cons_zero]
          refine wpQuiet_val' (.pointer (some ⟨w.heap.size, 1, none⟩)) (by rfl) (fun w' hw' => by go_simp) ?_
          simp only [put_lit, List.set_cons_succ, List.set_cons_zero]
          refine wpQuiet_val' (.slice SA n sc) (by rfl) (fun w' hw' => by have e0 := (hw'.cell (p := ⟨w.heap.size, 1, none⟩) g0).trans hy1; go_simp) ?_
          simp only [put_lit, List.set_cons_succ, List.set_cons_zero]
          refine wpQuiet_val' (.int .i64 n) (by rfl) (fun w' hw' => by go_simp) ?_
          simp only [put_lit, List.set_cons_succ, List.set_cons_zero]
          refine wpQuiet_val' (.bool false) (by rfl) (fun w' hw' => by go_simp) ?_
          simp only [put_lit, List.set_cons_succ, List.set_cons_zero]
          refine wpQuiet_val' (.bool false) (by rfl) (fun w' hw' => by go_simp) ?_
          simp only [put_lit, List.set_cons_succ, List.set_cons_zero]
          refine wpQuiet_val' (.bool false) (by rfl) (fun w' hw' => by go_simp) ?_
          simp only [put_lit, List.set_cons_succ, List.set_cons_zero]
          refine wpQuiet_val' (.agg #[.slice HA n hc, .slice SA n sc, .slice (some ⟨bp, op, none⟩) n pc]) (by rfl) (fun w' hw' => by have e0 := (hw'.cell (p := ⟨w.heap.size, 0, none⟩) g0).trans hy0; have e1 := (hw'.cell (p := ⟨w.heap.size, 1, none⟩) g0).trans hy1; have e2 := (hw'.cell (p := ⟨w.heap.size, 2, none⟩) g0).trans hy2; go_simp) ?_
          simp only [put_lit, List.set_cons_succ, List.set_cons_zero]
          refine wpQuiet_val' (.int .i64 (k : Nat)) (by rfl) (fun w' hw' => by go_simp) ?_
          simp only [put_lit, List.set_cons_succ, List.set_cons_zero]
          refine wpQuiet_val' (.int .i64 (s : Nat)) (by rfl) (fun w' hw' => by go_simp) ?_
          simp only [put_lit, List.set_cons_succ, List.set_cons_zero]
          refine wpQuiet_call' 66 #[.agg #[.slice HA n hc, .slice SA n sc, .slice (some ⟨bp, op, none⟩) n pc], .int .i64 (k : Nat), .int .i64 (s : Nat)] (.bool true) (by rfl) (fun w' hw' => by go_simp) (fun w' hw' => HC.out w' hw') ?_
          simp only [put_lit, List.set_cons_succ, List.set_cons_zero]
          refine wpQuiet_val' (.bool false) (by rfl) (fun w' hw' => by go_simp) ?_
          simp only [put_lit, List.set_cons_succ, List.set_cons_zero]
          refine wpQuiet_val' (.bool false) (by rfl) (fun w' hw' => by go_simp) ?_
          simp only [put_lit, List.set_cons_succ, List.set_cons_zero]
          refine wpQuiet_val' (.bool false) (by rfl) (fun w' hw' => by go_simp) ?_
          simp only [put_lit, List.set_cons_succ, List.set_cons_zero]
          refine wpQuiet_val' (.slice (some ⟨w1.heap.size, 0, none⟩) n n) (by rfl) (fun w' hw' => by go_simp) ?_
          simp only [put_lit, List.set_cons_succ, List.set_cons_zero]
          refine wpQuiet_val' (.int .i64 (s : Nat)) (by rfl) (fun w' hw' => by go_simp) ?_
          simp only [put_lit, List.set_cons_succ, List.set_cons_zero]
          refine wpQuiet_val' (.pointer (some ⟨w1.heap.size, s, none⟩)) (by rfl) (fun w' hw' => by go_simp) ?_
          simp only [put_lit, List.set_cons_succ, List.set_cons_zero]
          refine wpQuiet_val' (.int .i64 1) (by rfl) (fun w' hw' => by have e0 := (hw'.cell (p := ⟨w1.heap.size, s, none⟩) gc).trans hcr; go_simp) ?_
          simp only [put_lit, List.set_cons_succ, List.set_cons_zero]
          refine wpQuiet_val' (.pointer (some ⟨w.heap.size, 2, none⟩)) (by rfl) (fun w' hw' => by go_simp) ?_
          simp only [put_lit, List.set_cons_succ, List.set_cons_zero]
          refine wpQuiet_val' (.slice (some ⟨bp, op, none⟩) n pc) (by rfl) (fun w' hw' => by have e0 := (hw'.cell (p := ⟨w.heap.size, 2, none⟩) g0).trans hy2; go_simp) ?_
          simp only [put_lit, List.set_cons_succ, List.set_cons_zero]
          refine wpQuiet_val' (.int .i64 (s : Nat)) (by rfl) (fun w' hw' => by go_simp) ?_
          simp only [put_lit, List.set_cons_succ, List.set_cons_zero]
          refine wpQuiet_val' (.pointer (some ⟨bp, op + (s : Nat), none⟩)) (by rfl) (fun w' hw' => by go_simp) ?_
          simp only [put_lit, List.set_cons_succ, List.set_cons_zero]
          refine wpQuiet_val' (.int .i64 1) (by rfl) (fun w' hw' => by have e0 := (hw'.cell (p := ⟨bp, op + s, none⟩) gp).trans hcp; go_simp) ?_
          simp only [put_lit, List.set_cons_succ, List.set_cons_zero]
          refine wpQuiet_val' (.bool true) (by rfl) (fun w' hw' => by go_simp) ?_
          simp only [put_lit, List.set_cons_succ, List.set_cons_zero]
          refine wpQuiet_val' (.bool true) (by rfl) (fun w' hw' => by go_simp) ?_
          simp only [put_lit, List.set_cons_succ, List.set_cons_zero]
          refine wpQuiet_nil ?_
          intro w9 hb9
          have hb99 := hide (HBE.out.trans (hb9.mono hsz))
          clear hb9
          go_wp2
          go_ret
          exact ⟨by rw [HST.out]; rfl, HB.out.trans (hb99.out.mono HB.out.size)⟩
    · obtain rfl : n = k := by omega
      clear hb hr
      go_wp2
      go_ret
      exact ⟨by rw [HND.out]; rfl, HB.out.trans (HBE.out.mono HB.out.size)⟩
end Go.Proofs.Ytgognkofnegobaa
