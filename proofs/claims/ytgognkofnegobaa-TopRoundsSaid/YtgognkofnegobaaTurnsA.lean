/-
  turns: rank, possible, lists, of plans with as many shifts as hands and one place each.
-/
import Derived.Test.YtgognkofnegobaaContains
import Derived.Test.YtgognkofnegobaaIndex
import Derived.Test.YtgognkofnegobaaInfo
import Derived.Deep.Cut
namespace Go.Proofs.Ytgognkofnegobaa
open Go.RowKit
set_option linter.unusedVariables false
set_option linter.unusedSimpArgs false

/-- The place of x in a list; what is not there comes last. -/
def rankT (l : List Int) (x : Int) : Int := if 0 ≤ idx l x then idx l x else l.length
set_option maxHeartbeats 800000 in
theorem rankT_any (A : Option Addr) (n c B : Nat) (l : List Int) (x : Int) (w : World) (hn : l.length = n) (hlen : n ≤ 60) (hA : IntsA w B A l) :
    Calls Try.prog 100 #[.slice A n c, .int .i64 x] w fun e w' => e = .returned (.int .i64 (rankT l x)) ∧ w = w' := by
  have HI := hide (index_any A n c B l x w hn (by omega) hA)
  obtain ⟨r, hr⟩ : ∃ r, idx l x = r := ⟨_, rfl⟩
  have hrk : rankT l x = if 0 ≤ r then r else (n : Int) := by rw [rankT, hr, hn]
  rw [hr] at HI
  rw [hrk]
  clear hr hrk hA hn
  by_cases h0 : 0 ≤ r
  · rw [if_pos h0]
    have hd : decide (0 ≤ r) = true := decide_eq_true h0
    go_enter Try.func100, Try.ntmps100
    go_wp2_with (go_at_call 19; refine (HI.out).mono ?_; rintro e w' ⟨rfl, rfl⟩)
    go_ret
    exact ⟨rfl, rfl⟩
  · rw [if_neg h0]
    have hd : decide (0 ≤ r) = false := decide_eq_false h0
    go_enter Try.func100, Try.ntmps100
    go_wp2_with (go_at_call 19; refine (HI.out).mono ?_; rintro e w' ⟨rfl, rfl⟩)
    go_ret
    exact ⟨rfl, rfl⟩

/-- Square rows: n orders of n. -/
structure SqOk (W : List (List Nat)) (n : Nat) : Prop where
  len : W.length = n
  rows : ∀ i, i < n → Ord (W.getD i []) n
/-- A plan's memory: hands' lists, shifts' lists, one place each. -/
structure PlanA (w : World) (B : Nat) (HA SA PA : Option Addr) (n : Nat) (H S : List (List Nat)) : Prop where
  h : RowsA w B HA (upp H)
  s : RowsA w B SA (upp S)
  p : IntsA w B PA (up (List.replicate n 1))
  hok : SqOk H n
  sok : SqOk S n
theorem PlanA.next {w w' : World} {HA SA PA : Option Addr} {n : Nat} {H S : List (List Nat)} (h : PlanA w w.heap.size HA SA PA n H S) (hb : Below w.heap.size w w') : PlanA w' w'.heap.size HA SA PA n H S :=
  ⟨h.h.next hb, h.s.next hb, h.p.next hb, h.hok, h.sok⟩

set_option maxRecDepth 100000 in
set_option maxHeartbeats 1600000 in
theorem possible_any (HA SA PA : Option Addr) (n hc sc pc : Nat) (H S : List (List Nat)) (h s : Nat) (w : World) (hn : n ≤ 4) (hh : h < n) (hs : s < n) (hP : PlanA w w.heap.size HA SA PA n H S) :
    Calls Try.prog 66 #[.agg #[.slice HA n hc, .slice SA n sc, .slice PA n pc], .int .i64 (h : Nat), .int .i64 (s : Nat)] w fun e w' => e = .returned (.bool true) ∧ Below w.heap.size w w' := by
  obtain ⟨w1, hw1⟩ : ∃ w1, w1 = w.alloc (.cells #[.slice HA n hc, .slice SA n sc, .slice PA n pc] 33) := ⟨_, rfl⟩
  have hb1 : Below w.heap.size w w1 := by subst hw1; exact (Below.refl _ _).alloc (Nat.le_refl _) _
  have hP1 := hP.next hb1
  obtain ⟨b1, o1, A1, n1, c1, rfl, hb1', hc1, hx1, hle1, hI1⟩ := hP1.h.at_ (k := h) (by rw [upp_length, hP.hok.len]; exact hh)
  obtain ⟨b2, o2, A2, n2, c2, rfl, hb2', hc2, hx2, hle2, hI2⟩ := hP1.s.at_ (k := s) (by rw [upp_length, hP.sok.len]; exact hs)
  rw [upp_getD] at hx1 hI1 hx2 hI2
  have ho1 := hP.hok.rows h hh
  have ho2 := hP.sok.rows s hs
  have HC1 := hide (contains_any A1 n1 c1 w1.heap.size (up (H.getD h [])) (s : Int) w1 hx1.out (by have := hx1.out; rw [up_length, ho1.len] at this; omega) hI1)
  have HC2 := hide (contains_any A2 n2 c2 w1.heap.size (up (S.getD s [])) (h : Int) w1 hx2.out (by have := hx2.out; rw [up_length, ho2.len] at this; omega) hI2)
  rw [decide_eq_true (mem_up.2 ((ho1.mem s).2 hs))] at HC1
  rw [decide_eq_true (mem_up.2 ((ho2.mem h).2 hh))] at HC2
  have hhn : (h : Int) < (n : Int) := by omega
  have hsn : (s : Int) < (n : Int) := by omega
  have hbx : w1.heap[w.heap.size]? = some (.cells #[.slice (some ⟨b1, o1, none⟩) n hc, .slice (some ⟨b2, o2, none⟩) n sc, .slice PA n pc] 33 (0, 0)) := by rw [hw1]; exact alloc_new _ _ _ rfl
  have q0 := blk_cell hbx 0
  have q1 := blk_cell hbx 1
  simp only [List.getElem?_toArray, List.getElem?_cons_zero, List.getElem?_cons_succ] at q0 q1
  have HB := hide hb1
  have HW := hide hw1
  clear hbx
  clear hI1 hI2 hx1 hx2 ho1 ho2 hP hP1 hw1
  go_enter Try.func66, Try.ntmps66
  go_upto_region 1 with (fail)
  rw [← HW.out]
  go_wp2_with (first
    | (go_at_call 16; with_reducible refine (HC1.out).mono ?_; rintro e w' ⟨rfl, rfl⟩)
    | (go_at_call 16; with_reducible refine (HC2.out).mono ?_; rintro e w' ⟨rfl, rfl⟩))
  go_ret
  exact ⟨rfl, HB.out⟩
end Go.Proofs.Ytgognkofnegobaa
