/-
  swap: wishes.objects: whether a group objects to an outcome.
-/
import Derived.Test.YtilnbiaabhdfgaaFind
namespace Go.Proofs.Ytilnbiaabhdfgaa
open Go.RowKit
set_option linter.unusedVariables false
set_option linter.unusedSimpArgs false

/-- Within the group things stay within it, and outside outside. -/
def closedB (M : Nat) (y : List Nat) (k : Nat) : Bool := (List.range k).all fun i => M.testBit i == M.testBit (y.getD i 0)
theorem closedB_succ (M : Nat) (y : List Nat) (k : Nat) : closedB M y (k + 1) = (closedB M y k && (M.testBit k == M.testBit (y.getD k 0))) := by simp [closedB, List.range_succ]
theorem closedB_false {M : Nat} {y : List Nat} {k n : Nat} (h : closedB M y k = false) (hk : k ≤ n) : closedB M y n = false := by
  induction n with
  | zero => obtain rfl : k = 0 := by omega
            exact h
  | succ n ih =>
    by_cases e : k = n + 1
    · rw [← e]; exact h
    · rw [closedB_succ, ih (by omega)]; rfl
def objP (W : List (List Nat)) (n M : Nat) (o y : List Nat) : Bool := closedB M y n && impr W n M y o
def objStep (W : List (List Nat)) (n M : Nat) (o : List Nat) (s : Bool) (y : List Nat) : Bool × Bool := if closedB M y n then (!impr W n M y o, impr W n M y o) else (true, s)
def objectsB (W : List (List Nat)) (n M : Nat) (o : List Nat) : Bool := (ordsN n).any (objP W n M o)
theorem runL_obj (W : List (List Nat)) (n M : Nat) (o : List Nat) (ls : List (List Nat)) : (runL (objStep W n M o) ls false).2 = ls.any (objP W n M o) := by
  induction ls with
  | nil => rfl
  | cons y ls ih =>
    cases hc : closedB M y n
    · have e : objStep W n M o false y = (true, false) := by simp [objStep, hc]
      simp only [runL, e, if_true, List.any_cons, objP, hc, Bool.false_and, Bool.false_or]
      exact ih
    · cases hi : impr W n M y o
      · have e : objStep W n M o false y = (true, false) := by simp [objStep, hc, hi]
        simp only [runL, e, if_true, List.any_cons, objP, hc, hi, Bool.true_and, Bool.false_or]
        exact ih
      · have e : objStep W n M o false y = (false, true) := by simp [objStep, hc, hi]
        simp [runL, e, List.any_cons, objP, hc, hi]

/-- The variable for what has been found (fb); all below is as it was in w0. -/
structure OInv (fb : Nat) (w0 : World) (F : Nat → Prop) (s : Bool) (w : World) : Prop where
  box : w.heap[fb]? = some (.cells #[.bool s] 4 (0, 0))
  own : ∀ k, F k ↔ k = fb
  old : ∀ k, k < fb → w.heap[k]? = w0.heap[k]?
theorem OInv.stab {fb : Nat} {w0 : World} {F : Nat → Prop} {s : Bool} {w w' : World} (h : OInv fb w0 F s w) (hk : ∀ k, F k ∨ k < fb + 1 → w'.heap[k]? = w.heap[k]?) : OInv fb w0 F s w' :=
  ⟨(hk fb (.inr (by omega))).trans h.box, h.own, fun k hkf => (hk k (.inr (by omega))).trans (h.old k hkf)⟩
theorem OInv.next {fb : Nat} {w0 : World} {F : Nat → Prop} {s : Bool} {w w' : World} (h : OInv fb w0 F s w) (hb : Below w.heap.size w w') : OInv fb w0 F s w' :=
  h.stab (fun k hk => hb.block k (by
    have := lt_of_block h.box
    rcases hk with hk | hk
    · rw [(h.own k).1 hk]; exact this
    · omega))

structure ObMem (n fb : Nat) (w0 : World) (sb wb ob M : Nat) (A X : Option Addr) (c cx : Nat) (W : List (List Nat)) (o : List Nat) : Prop where
  hs : w0.heap[sb]? = some (.cells #[.int .i64 M] 3 (0, 0))
  hw : w0.heap[wb]? = some (.cells #[.slice A n c] 49 (0, 0))
  ho : w0.heap[ob]? = some (.cells #[.slice X n cx] 23 (0, 0))
  lt : sb < fb ∧ wb < fb ∧ ob < fb
  rows : RowsA w0 fb A (upp W)
  ints : IntsA w0 fb X (up o)

theorem goes_objects1 : Goes Try.prog 88 := goes_of Try.func88 rfl rfl

def ObPost (W : List (List Nat)) (n M : Nat) (o : List Nat) (fb : Nat) (w0 : World) (F : Nat → Prop) (s : Bool) (l : List Nat) (w : World) (e : Ending) (w' : World) : Prop :=
  ∃ F', e = .returned (.bool (objStep W n M o s l).1) ∧ OInv fb w0 F' (objStep W n M o s l).2 w' ∧ (∀ k, F' k → F k ∨ w.heap.size ≤ k) ∧ (∀ k, F' k → k < w'.heap.size) ∧ Only F w w'

set_option maxRecDepth 100000 in
set_option maxHeartbeats 1600000 in
theorem objects1_any {n fb : Nat} {w0 : World} {sb wb ob M : Nat} {A X : Option Addr} {c cx : Nat} {W : List (List Nat)} {o : List Nat} (hn : n ≤ 59) (hM : M < 2 ^ 60) (hB : ObMem n fb w0 sb wb ob M A X c cx W o) (hlen : W.length = n) (hrows : ∀ i, i < n → Ord (W.getD i []) n) (ho : Ord o n)
    (F : Nat → Prop) (s : Bool) (w : World) (Y : Option Addr) (cy : Nat) (l : List Nat) (hl : Ord l n) (hi : OInv fb w0 F s w) (hY : IntsA w w.heap.size Y (up l)) (hcy : n ≤ cy) :
    Calls Try.prog 88 (#[.slice Y n cy] ++ #[.pointer (some ⟨sb, 0, none⟩), .pointer (some ⟨wb, 0, none⟩), .pointer (some ⟨ob, 0, none⟩), .pointer (some ⟨fb, 0, none⟩)]) w (ObPost W n M o fb w0 F s l w) := by
  have hfb := lt_of_block hi.box
  have hlt := hB.lt
  have k0 := blk_cell ((hi.old sb hlt.1).trans hB.hs) 0
  have k1 := blk_cell ((hi.old wb hlt.2.1).trans hB.hw) 0
  have k2 := blk_cell ((hi.old ob hlt.2.2).trans hB.ho) 0
  simp only [List.getElem?_toArray, List.getElem?_cons_zero] at k0 k1 k2
  have hA : RowsA w fb A (upp W) := hB.rows.keep fun p hp => World.cell?_of_block (hi.old p.block hp)
  have hX : IntsA w fb X (up o) := hB.ints.keep fun p hp => World.cell?_of_block (hi.old p.block hp)
  have HC : Hid (∀ w', Below w.heap.size w w' → Calls Try.prog 64 #[.slice A n c, .int .i64 M, .slice Y n cy, .slice X n cx] w' fun e w'' => e = .returned (.bool (impr W n M l o)) ∧ Below w'.heap.size w' w'') := fun w' hw' =>
    improves_any A Y X n c cy cx w.heap.size w.heap.size w.heap.size M W l o w' hlen (by omega) hrows hM (hA.top.below hw') hl ho (hY.below hw') (hX.top.below hw')
  have HI := hide hi
  have HL := hide hl
  have HLL := hide hl.len
  generalize hr : impr W n M l o = r at *
  have HR := hide hr
  have hsb : sb < w.heap.size := by omega
  have hwb : wb < w.heap.size := by omega
  have hob : ob < w.heap.size := by omega
  simp only [List.append_toArray, List.cons_append, List.nil_append]
  clear hi hl hr hA hX hB hlen hrows ho
  go_enter Try.func88, Try.ntmps88
  go_wp2
  go_loopw [11] (fun i wr => ∃ k : Nat, k ≤ n ∧ i = .int .i64 k ∧ Below w.heap.size w wr ∧ Hid (closedB M l k = true)) (fun i _ => n - (intOf i).toNat)
  case atStart => exact ⟨0, Nat.zero_le _, rfl, Below.refl _ _, rfl⟩
  case round =>
    obtain ⟨k, hk, rfl, hwr, hcl⟩ := hrel
    have q0 := (hwr.cell (p := ⟨sb, 0, none⟩) hsb).trans k0
    by_cases hlt : k < n
    · obtain ⟨b1, o1, x1, rfl, hb1, hc1, hx1⟩ := (hY.below hwr).at_ (k := k) (by rw [up_length, HLL.out]; exact hlt)
      have e1 := hx1.out
      rw [up_getD] at e1
      have g1 := HL.out.getD_lt hlt
      have HS := hide (closedB_succ M l k)
      generalize l.getD k 0 = g at *
      subst e1
      have hM62 : M < 2 ^ 62 := Nat.lt_trans hM (by decide)
      have t1 := shr_bit M k hM62
      have t2 := shr_bit M g hM62
      by_cases hb : M.testBit k = M.testBit g
      · have ht : (bits .and .i64 ((M : Int) / 2 ^ k) 1 != bits .and .i64 ((M : Int) / 2 ^ g) 1) = false := by rw [t1, t2, hb]; simp
        have HB := hide hb
        clear hb t1 t2 hx1
        go_wp2
        go_quiet (fail)
        go_wp2
        go_roundw
        case rel => exact ⟨k + 1, by omega, by go_num, below_drewN hwr _, by show _ = _; rw [HS.out, hcl.out, HB.out]; simp⟩
        case measure => simp [intOf] <;> omega
      · have ht : (bits .and .i64 ((M : Int) / 2 ^ k) 1 != bits .and .i64 ((M : Int) / 2 ^ g) 1) = true := by
          rw [t1, t2]
          revert hb
          cases M.testBit k <;> cases M.testBit g <;> simp
        have HB : Hid (¬ M.testBit k = M.testBit g) := hb
        clear hb t1 t2 hx1
        go_wp2
        go_quiet (fail)
        go_wp2
        go_ret
        have hc0 : closedB M l n = false := closedB_false (k := k + 1) (by rw [HS.out, hcl.out]; simpa using HB.out) (by omega)
        have e : objStep W n M o s l = (true, s) := by simp [objStep, hc0]
        have hbel := below_drewN hwr
        refine ⟨F, by rw [e]; rfl, by rw [e]; exact HI.out.next (hbel _), fun k hk => .inl hk, fun k hk => ?_, Only.of_below (hbel _)⟩
        rw [(HI.out.own k).1 hk]
        exact Nat.lt_of_lt_of_le hfb (hbel _).size
    · obtain rfl : n = k := by omega
      have q1 := (hwr.cell (p := ⟨wb, 0, none⟩) hwb).trans k1
      have q2 := (hwr.cell (p := ⟨ob, 0, none⟩) hob).trans k2
      have hsz := hwr.size
      go_wp2_with (go_at_call 64; refine (HC.out _ hwr).mono ?_; rintro e w1 ⟨rfl, hb1⟩; have hn1 := (HI.out.next hwr).next hb1; have f0 := blk_cell hn1.box 0; have f1 := blk_free hn1.box 0; simp only [List.getElem?_toArray, List.getElem?_cons_zero] at f0; have HN1 := hide hn1; clear hn1)
      go_ret
      have e : objStep W n M o s l = (!r, r) := by simp [objStep, hcl.out, HR.out]
      have hb2 := hwr.trans (hb1.mono hwr.size)
      refine ⟨F, by rw [e]; rfl, by rw [e]; exact ⟨blk_set HN1.out.box 0 _, HI.out.own, fun k hk => (blk_far _ (by omega)).trans (HN1.out.old k hk)⟩, fun k hk => .inl hk, fun k hk => ?_, ?_⟩
      · rw [(HI.out.own k).1 hk]
        have := hb2.size
        simp only [World.setCell, Array.size_modify]
        omega
      · exact (Only.of_below hb2).setCell (.inl ((HI.out.own _).2 rfl)) _

theorem objects_more {n fb : Nat} {w0 : World} {sb wb ob M : Nat} {A X : Option Addr} {c cx : Nat} {W : List (List Nat)} {o : List Nat} (hn : n ≤ 59) (hM : M < 2 ^ 60) (hB : ObMem n fb w0 sb wb ob M A X c cx W o) (hlen : W.length = n) (hrows : ∀ i, i < n → Ord (W.getD i []) n) (ho : Ord o n) :
    MoreOk 88 #[.pointer (some ⟨sb, 0, none⟩), .pointer (some ⟨wb, 0, none⟩), .pointer (some ⟨ob, 0, none⟩), .pointer (some ⟨fb, 0, none⟩)] n (fb + 1) (objStep W n M o) (OInv fb w0) :=
  ⟨goes_objects1, fun F s w Y cy l hl hi _ _ hY hcy _ => objects1_any hn hM hB hlen hrows ho F s w Y cy l hl hi hY hcy, fun F s w w' hi hk hs _ => hi.stab hk⟩

set_option maxHeartbeats 800000 in
theorem objects_any (A X : Option Addr) (n c cx B B1 M : Nat) (W : List (List Nat)) (o : List Nat) (w : World) (hlen : W.length = n) (hn : n ≤ 59) (hM : M < 2 ^ 60) (hrows : ∀ i, i < n → Ord (W.getD i []) n) (ho : Ord o n) (hA : RowsA w B A (upp W)) (hX : IntsA w B1 X (up o)) :
    Calls Try.prog 68 #[.slice A n c, .int .i64 M, .slice X n cx] w fun e w' => e = .returned (.bool (objectsB W n M o)) ∧ Below w.heap.size w w' := by
  obtain ⟨w4, hw4⟩ : ∃ w4, w4 = ((((w.alloc (.cells #[.slice A n c] 49)).alloc (.cells #[.int .i64 M] 3)).alloc (.cells #[.slice X n cx] 23)).alloc (.cells #[.bool false] 4)) := ⟨_, rfl⟩
  have hb4 : Below w.heap.size w w4 := by subst hw4; exact ((((Below.refl _ _).alloc (Nat.le_refl _) _).alloc (by simp) _).alloc (by simp <;> omega) _).alloc (by simp <;> omega) _
  have hs4 : w4.heap.size = w.heap.size + 3 + 1 := by subst hw4; simp
  have b0 : w4.heap[w.heap.size]? = some (.cells #[.slice A n c] 49 (0, 0)) := by subst hw4; exact alloc_old _ _ _ (by simp <;> omega) (alloc_old _ _ _ (by simp <;> omega) (alloc_old _ _ _ (by simp) (alloc_new _ _ _ rfl)))
  have b1 : w4.heap[w.heap.size + 1]? = some (.cells #[.int .i64 M] 3 (0, 0)) := by subst hw4; exact alloc_old _ _ _ (by simp <;> omega) (alloc_old _ _ _ (by simp) (alloc_new _ _ _ (by simp)))
  have b2 : w4.heap[w.heap.size + 2]? = some (.cells #[.slice X n cx] 23 (0, 0)) := by subst hw4; exact alloc_old _ _ _ (by simp) (alloc_new _ _ _ (by simp))
  have b3 : w4.heap[w.heap.size + 3]? = some (.cells #[.bool false] 4 (0, 0)) := by subst hw4; exact alloc_new _ _ _ (by simp)
  have hmem : ObMem n (w.heap.size + 3) w4 (w.heap.size + 1) w.heap.size (w.heap.size + 2) M A X c cx W o := ⟨b1, b0, b2, by omega, (hA.top.below hb4).more (by omega), (hX.top.below hb4).more (by omega)⟩
  have hmore := objects_more hn hM hmem hlen hrows ho
  rw [← hs4] at hmore
  have HO := hide (orders_any hmore (by omega) false (fun k => k = w.heap.size + 3) ⟨b3, fun k => Iff.rfl, fun k hk => rfl⟩ (fun q hq => by omega))
  have HB4 := hide hb4
  have HS4 := hide hs4
  have HW := hide hw4
  generalize hres : objectsB W n M o = res
  have hres' : (runL (objStep W n M o) (ordsN n) false).2 = res := by rw [runL_obj]; exact hres
  rw [hres'] at HO
  have k0 := blk_cell b0 0
  simp only [List.getElem?_toArray, List.getElem?_cons_zero] at k0
  rw [hw4] at HO k0
  clear hmore hmem b0 b1 b2 b3 hb4 hs4 hw4 hA hX hrows ho hres hres'
  go_enter Try.func68, Try.ntmps68
  go_wp2_with (go_at_call 62; refine (HO.out).mono ?_; rintro e w5 ⟨F', rfl, h1, h2, h3, h4⟩; rw [← HW.out] at h4; have f0 := blk_cell h1.box 0; simp only [List.getElem?_toArray, List.getElem?_cons_zero] at f0; have H4 := hide h4; clear h1 h2 h3 h4)
  go_ret
  have hs := HS4.out
  exact ⟨rfl, HB4.out.trans (H4.out.below (by omega) (fun k hk => by omega))⟩
end Go.Proofs.Ytilnbiaabhdfgaa
