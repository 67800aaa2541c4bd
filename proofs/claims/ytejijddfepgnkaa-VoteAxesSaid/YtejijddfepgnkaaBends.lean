/-
  vote: bends: a candidate is behind two others between which it is.
-/
import Derived.Test.YtejijddfepgnkaaIndex
import Derived.Test.YtejijddfepgnkaaIdxFuncBel
import Derived.Test.YtejijddfepgnkaaMargins
import Derived.Test.YtejijddfepgnkaaFewVote
namespace Go.Proofs.Ytejijddfepgnkaa
open Go.RowKit
set_option linter.unusedVariables false
set_option linter.unusedSimpArgs false

theorem goes_bends1 : Goes Try.prog 111 := goes_of Try.func111 (by kernel_rfl) (by kernel_rfl)
theorem slice_head (A : Option Addr) (n c j : Nat) (hj : j ≤ n) (hnc : n ≤ c) (w : World) : (Instr.slice 23 (.slice A n c) none (some (.int .i64 j)) none).run Try.prog w = .ok (.slice A j c) w := by
  have ht : Try.prog.underlying 23 = some (.slice (Try.prog.elem 23)) := by kernel_rfl
  have hz : (sizeOf (Try.prog.elem 23)).run Try.prog w = .ok 1 w := by kernel_rfl
  rw [run_slice_h (ht := ht) (h0 := by omega) (h2 := by omega)]
  simp only [Result.andThen, hz]
  unfold sliced
  simp only [Int.toNat_natCast]
  cases A with
  | none => simp
  | some a =>
    by_cases h : c = 0
    · simp [h]
    · rw [if_neg (by omega)]; simp [Addr.add]

set_option maxRecDepth 100000 in
set_option maxHeartbeats 800000 in
theorem bends1_any (X : Option Addr) (m cx bb yb : Nat) (b : List Int) (x y : Int) (w : World) (hm : b.length = m) (hm9 : m ≤ 60) (hX : IntsA w w.heap.size X b) (hbb : w.cell? ⟨bb, 0, none⟩ = some (.slice X m cx)) (hyb : w.cell? ⟨yb, 0, none⟩ = some (.int .i64 y)) :
    Calls Try.prog 111 (#[.int .i64 x] ++ #[.pointer (some ⟨bb, 0, none⟩), .pointer (some ⟨yb, 0, none⟩)]) w fun e w' => e = .returned (.bool (decide (idx b x < y))) ∧ Below w.heap.size w w' := by
  have HIX := hide (fun w' (h : Below w.heap.size w w') => index_any X m cx w.heap.size b x w' hm (by omega) (hX.below h))
  have lb : bb < w.heap.size := cell_lt hbb
  have ly : yb < w.heap.size := cell_lt hyb
  generalize idx b x = p at *
  clear hX hm
  go_enter Try.func111, Try.ntmps111
  go_upto_region 1 with (fail)
  refine wp_region_below (by kernel_rfl) (by kernel_rfl) ?_
  refine wpQuiet_val' (.slice X m cx) (by rfl) (fun w' hw' => by have e0 := (hw'.cell (p := ⟨bb, 0, none⟩) lb).trans hbb; go_simp) ?_
  simp only [put_lit, List.set_cons_succ, List.set_cons_zero]
  refine wpQuiet_val' (.int .i64 x) (by rfl) (fun w' hw' => by go_simp) ?_
  simp only [put_lit, List.set_cons_succ, List.set_cons_zero]
  refine wpQuiet_call' 26 #[.slice X m cx, .int .i64 x] (.int .i64 p) (by rfl) (fun w' hw' => by go_simp) (fun w' hw' => (HIX.out w' hw').mono fun e w9 h9 => ⟨h9.1, by rw [← h9.2]; exact hw'⟩) ?_
  simp only [put_lit, List.set_cons_succ, List.set_cons_zero]
  refine wpQuiet_val' (.int .i64 y) (by rfl) (fun w' hw' => by have e0 := (hw'.cell (p := ⟨yb, 0, none⟩) ly).trans hyb; go_simp) ?_
  simp only [put_lit, List.set_cons_succ, List.set_cons_zero]
  refine wpQuiet_val' (.bool (decide (p < y))) (by rfl) (fun w' hw' => by go_simp) ?_
  simp only [put_lit, List.set_cons_succ, List.set_cons_zero]
  refine wpQuiet_val' (.bool (decide (p < y))) (by rfl) (fun w' hw' => by go_simp) ?_
  simp only [put_lit, List.set_cons_succ, List.set_cons_zero]
  refine wpQuiet_nil ?_
  intro w9 hb9
  go_wp2
  go_ret
  exact ⟨rfl, hb9⟩

/-- The one at place j is behind one before and one behind it. -/
def bendAt (o b : List Int) (j : Nat) : Bool := decide (0 ≤ fidx j fun i => decide (idx b (o.getD i 0) < idx b (o.getD j 0))) && decide (0 ≤ fidx (o.length - (j + 1)) fun i => decide (idx b (o.getD (j + 1 + i) 0) < idx b (o.getD j 0)))
def bendB (o b : List Int) : Bool := (List.range o.length).any fun j => decide (1 ≤ j ∧ j + 1 < o.length) && bendAt o b j
theorem bendB_yes {o b : List Int} {j : Nat} (h1 : 1 ≤ j) (h2 : j + 1 < o.length) (h : bendAt o b j = true) : bendB o b = true := by
  rw [bendB, List.any_eq_true]
  exact ⟨j, List.mem_range.2 (by omega), by rw [decide_eq_true ⟨h1, h2⟩, h]; rfl⟩
theorem bendB_no {o b : List Int} (h : ∀ j, 1 ≤ j → j + 1 < o.length → bendAt o b j = false) : bendB o b = false := by
  rw [bendB, List.any_eq_false]
  intro j hj
  by_cases hc : 1 ≤ j ∧ j + 1 < o.length
  · rw [h j hc.1 hc.2]; simp
  · rw [decide_eq_false hc]; simp

set_option maxRecDepth 100000 in
set_option maxHeartbeats 1600000 in
theorem bends_any (A : Option Addr) (n c : Nat) (o : List Int) (X : Option Addr) (m cx : Nat) (b : List Int) (w : World) (hn : o.length = n) (hn9 : n ≤ 60) (hnc : n ≤ c) (hA : IntsA w w.heap.size A o) (hm : b.length = m) (hm9 : m ≤ 60) (hX : IntsA w w.heap.size X b) :
    Calls Try.prog 100 #[.slice A n c, .slice X m cx] w fun e w' => e = .returned (.bool (bendB o b)) ∧ Below w.heap.size w w' := by
  have hmf : ∀ (fn : Fn) (first cap : Array Value) (w : World), (Instr.makeFunc fn first cap).run Try.prog w = .ok (.func fn first cap) w := fun _ _ _ _ => rfl
  obtain ⟨w0, hw0⟩ : ∃ w0 : World, w0 = w.alloc (.cells #[.slice X m cx] 23) := ⟨_, rfl⟩
  have hb0 : Below w.heap.size w w0 := by subst hw0; exact (Below.refl _ _).alloc (Nat.le_refl _) _
  have hs0 : w0.heap.size = w.heap.size + 1 := by subst hw0; simp
  have hc0 : w0.cell? ⟨w.heap.size, 0, none⟩ = some (.slice X m cx) := by subst hw0; rw [World.cell?_alloc_at _ _ _ _ rfl]; rfl
  have HA := hide (hA.below hb0)
  have HX := hide (hX.below hb0)
  have HB0 := hide hb0
  have HW0 := hide hw0
  have HC0 := hide hc0
  have HN := hide hn
  have HM := hide hm
  obtain ⟨rB, hrB⟩ : ∃ rB, bendB o b = rB := ⟨_, rfl⟩
  rw [hrB]
  have HRB := hide hrB
  clear hA hX hw0 hc0 hb0 hn hm hrB
  go_enter Try.func100, Try.ntmps100
  go_wp2_with fail
  rw [← HW0.out]
  go_loopw [5] (fun i wr => ∃ j : Nat, 1 ≤ j ∧ j ≤ n + 1 ∧ i = .int .i64 j ∧ Hid (∀ j', 1 ≤ j' → j' < j → j' + 1 < n → bendAt o b j' = false) ∧ Below w0.heap.size w0 wr) (fun i _ => n + 1 - (intOf i).toNat)
  case atStart => exact ⟨1, Nat.le_refl _, by omega, rfl, fun j' h1 h2 => absurd h2 (by omega), Below.refl _ _⟩
  case round =>
    obtain ⟨j, hj1, hjn, rfl, hno, hbel⟩ := hrel
    have HBE := hide hbel
    have hsz := hbel.size
    by_cases hlt : j + 1 < n
    · have hle : decide ((j : Int) + 1 < (n : Int)) = true := decide_eq_true (by omega)
      have hIA := HA.out.below (hbel.mono (by omega))
      obtain ⟨bo, oo, xj, rfl, hbo, z1, hxj⟩ := hIA.at_ (k := j) (by rw [HN.out]; omega)
      have z0 := (hbel.cell (p := ⟨w.heap.size, 0, none⟩) (by show w.heap.size < _; omega)).trans HC0.out
      have HIA := hide hIA
      have HXJ := hide hxj.out
      have hi1 : (j : Int) < (n : Int) := by omega
      have HIX := hide (fun w' (h : Below wr.heap.size wr w') => index_any X m cx w.heap.size b xj w' HM.out (by omega) (HX.out.below ((hbel.mono (show w.heap.size ≤ w0.heap.size by omega)).trans (h.mono (by omega)))))
      obtain ⟨y, hy⟩ : ∃ y, idx b xj = y := ⟨_, rfl⟩
      rw [hy] at HIX
      have HY := hide hy
      have l0 : w.heap.size < wr.heap.size := by omega
      have HSS : Hid (∀ w', Below wr.heap.size wr w' → w'.cell? ⟨w.heap.size, 0, none⟩ = some (.slice X m cx) ∧ w'.cell? ⟨bo, oo + j, none⟩ = some (.int .i64 xj) ∧ Below wr.heap.size wr w') := fun w' h => ⟨(h.cell (p := ⟨w.heap.size, 0, none⟩) l0).trans z0, (h.cell (p := ⟨bo, oo + j, none⟩) (by show bo < _; omega)).trans z1, h⟩
      clear hbel hIA hxj hy
      go_wp2_with fail
      go_cut [6] (fun u6 w1 => ∃ yb : Nat, u6 = .pointer (some ⟨yb, 0, none⟩) ∧ w1.cell? ⟨yb, 0, none⟩ = some (.int .i64 y) ∧ Below wr.heap.size wr w1)
      case first =>
        refine wp_region_noPanic ?_
        refine wp_region_held_drew (S := (fun w' => w'.cell? ⟨w.heap.size, 0, none⟩ = some (.slice X m cx) ∧ w'.cell? ⟨bo, oo + j, none⟩ = some (.int .i64 xj) ∧ Below wr.heap.size wr w')) (by kernel_rfl) ⟨z0, z1, (Below.refl _ wr).drew⟩ (fun hHeld => ?_)
        show wpAnyH _ _ _ _ _ _ (#[false, false, false, false, false, false, false, false] : Array Bool) _ _
        refine wpAnyH_take (i := 0) (v := .slice X m cx) rfl (by kernel_rfl) (by kernel_rfl) (by kernel_rfl) (fun _ _ _ h => h) (Or.inl ⟨by rfl, ?_⟩) hHeld ?_
        · (intro w' hSw; obtain ⟨y1, y2, y3⟩ := hSw; go_simp)
        try simp only [Act.put, List.setIfInBounds_toArray, List.set_cons_zero, List.set_cons_succ]
        refine wpAnyH_take (i := 1) (v := .slice (some ⟨bo, oo, none⟩) n c) rfl (by kernel_rfl) (by kernel_rfl) (by kernel_rfl) (fun _ _ _ h => h) (Or.inl ⟨by rfl, ?_⟩) hHeld ?_
        · (intro w' hSw; obtain ⟨y1, y2, y3⟩ := hSw; go_simp)
        try simp only [Act.put, List.setIfInBounds_toArray, List.set_cons_zero, List.set_cons_succ]
        refine wpAnyH_take (i := 2) (v := .int .i64 j) rfl (by kernel_rfl) (by kernel_rfl) (by kernel_rfl) (fun _ _ _ h => h) (Or.inl ⟨by rfl, ?_⟩) hHeld ?_
        · (intro w' hSw; obtain ⟨y1, y2, y3⟩ := hSw; go_simp)
        try simp only [Act.put, List.setIfInBounds_toArray, List.set_cons_zero, List.set_cons_succ]
        refine wpAnyH_take (i := 3) (v := .pointer (some ⟨bo, oo + j, none⟩)) rfl (by kernel_rfl) (by kernel_rfl) (by kernel_rfl) (fun _ _ _ h => h) (Or.inl ⟨by rfl, ?_⟩) hHeld ?_
        · (intro w' hSw; obtain ⟨y1, y2, y3⟩ := hSw; go_simp)
        try simp only [Act.put, List.setIfInBounds_toArray, List.set_cons_zero, List.set_cons_succ]
        refine wpAnyH_take (i := 4) (v := .int .i64 xj) rfl (by kernel_rfl) (by kernel_rfl) (by kernel_rfl) (fun _ _ _ h => h) (Or.inl ⟨by rfl, ?_⟩) hHeld ?_
        · (intro w' hSw; obtain ⟨y1, y2, y3⟩ := hSw; go_simp)
        try simp only [Act.put, List.setIfInBounds_toArray, List.set_cons_zero, List.set_cons_succ]
        refine wpAnyH_ready (rs := [5, 6]) (by kernel_rfl) (by simp) ?_
        refine AllReadyH.cons rfl (fun K hK => ?_) (AllReadyH.cons rfl (fun K hK => ?_) AllReadyH.nil)
        · clear hHeld
          have hBd : Below wr.heap.size wr wr.drew := (Below.refl _ wr).drew
          go_simp
          refine (HIX.out _ hBd).mono ?_
          rintro e w5 ⟨rfl, hw5⟩
          subst hw5
          try go_wp2_with fail
          refine hK.out _ _ (HSS.out _ hBd) (fun hHeld => ?_)
          clear hK K
          try simp only [Act.put, List.setIfInBounds_toArray, List.set_cons_zero, List.set_cons_succ]
          refine wpAnyH_ready (rs := [6]) (by kernel_rfl) (by simp) ?_
          refine AllReadyH.cons rfl (fun K hK => ?_) AllReadyH.nil
          clear hHeld
          go_simp
          replace hBd := hBd.alloc (Nat.le_refl _) (.cells #[.int .i64 0] 3)
          refine hK.out _ _ (HSS.out _ hBd) (fun hHeld => ?_)
          clear hK K
          try simp only [Act.put, List.setIfInBounds_toArray, List.set_cons_zero, List.set_cons_succ]
          refine wpAnyH_ready (rs := [7]) (by kernel_rfl) (by simp) ?_
          refine AllReadyH.cons rfl (fun K hK => ?_) AllReadyH.nil
          clear hHeld
          go_simp
          replace hBd : Below wr.heap.size wr (wr.alloc (.cells #[.int .i64 y] 3)).drew := ((Below.refl _ _).alloc (Nat.le_refl _) _).drew
          refine hK.out _ _ (HSS.out _ hBd) (fun hHeld => ?_)
          clear hK K
          try simp only [Act.put, List.setIfInBounds_toArray, List.set_cons_zero, List.set_cons_succ]
          refine wpAnyH_done (by kernel_rfl) ?_ _
          refine NoPanic.normal ?_
          go_wp2_with fail
          go_meet
          exact ⟨wr.heap.size, rfl, by show (wr.alloc _).cell? _ = _; rw [World.cell?_alloc_at _ _ _ _ rfl]; rfl, ((Below.refl _ _).alloc (Nat.le_refl _) _).drew⟩
        · clear hHeld
          have hBd : Below wr.heap.size wr wr.drew := (Below.refl _ wr).drew
          go_simp
          replace hBd := hBd.alloc (Nat.le_refl _) (.cells #[.int .i64 0] 3)
          refine hK.out _ _ (HSS.out _ hBd) (fun hHeld => ?_)
          clear hK K
          try simp only [Act.put, List.setIfInBounds_toArray, List.set_cons_zero, List.set_cons_succ]
          refine wpAnyH_ready (rs := [5]) (by kernel_rfl) (by simp) ?_
          refine AllReadyH.cons rfl (fun K hK => ?_) AllReadyH.nil
          clear hHeld
          go_simp
          refine (HIX.out _ hBd).mono ?_
          rintro e w5 ⟨rfl, hw5⟩
          subst hw5
          try go_wp2_with fail
          refine hK.out _ _ (HSS.out _ hBd) (fun hHeld => ?_)
          clear hK K
          try simp only [Act.put, List.setIfInBounds_toArray, List.set_cons_zero, List.set_cons_succ]
          refine wpAnyH_ready (rs := [7]) (by kernel_rfl) (by simp) ?_
          refine AllReadyH.cons rfl (fun K hK => ?_) AllReadyH.nil
          clear hHeld
          go_simp
          replace hBd : Below wr.heap.size wr (wr.alloc (.cells #[.int .i64 y] 3)).drew := ((Below.refl _ _).alloc (Nat.le_refl _) _).drew
          refine hK.out _ _ (HSS.out _ hBd) (fun hHeld => ?_)
          clear hK K
          try simp only [Act.put, List.setIfInBounds_toArray, List.set_cons_zero, List.set_cons_succ]
          refine wpAnyH_done (by kernel_rfl) ?_ _
          refine NoPanic.normal ?_
          go_wp2_with fail
          go_meet
          exact ⟨wr.heap.size, rfl, by show (wr.alloc _).cell? _ = _; rw [World.cell?_alloc_at _ _ _ _ rfl]; rfl, ((Below.refl _ _).alloc (Nat.le_refl _) _).drew⟩
      case rest =>
        obtain ⟨yb, rfl, hyb, hb1⟩ := hcut
        obtain ⟨wp, rfl⟩ : ∃ wp : World, wp = wr := ⟨_, rfl⟩
        have hb01 : Below w0.heap.size w0 wc := HBE.out.trans (hb1.mono hsz)
        have hs01 := hb01.size
        have hs1 := hb1.size
        have zc := (hb01.cell (p := ⟨w.heap.size, 0, none⟩) (by show w.heap.size < _; omega)).trans HC0.out
        have lyb : yb < wc.heap.size := cell_lt hyb
        have hIA : IntsA wc wc.heap.size (some ⟨bo, oo, none⟩) o := (HIA.out.below (hb1.mono (by omega))).top
        have hXB : IntsA wc wc.heap.size X b := ((HX.out.below (hb01.mono (by omega)))).top
        have hF : ∀ (l : List Int) k x w', k < l.length → l.getD k 0 = x → Below wc.heap.size wc w' → Calls Try.prog 111 (#[.int .i64 x] ++ #[.pointer (some ⟨w.heap.size, 0, none⟩), .pointer (some ⟨yb, 0, none⟩)]) w' fun e w'' => e = .returned (.bool (decide (idx b (l.getD k 0) < y))) ∧ Below w'.heap.size w' w'' := fun l k x w' hk hx hb' => by
          rw [hx]
          exact bends1_any X m cx w.heap.size yb b x y w' HM.out hm9 (hXB.next hb') ((hb'.cell (p := ⟨w.heap.size, 0, none⟩) (by show w.heap.size < _; omega)).trans zc) ((hb'.cell (p := ⟨yb, 0, none⟩) lyb).trans hyb)
        have hlt1 : (o.take j).length = j := by rw [List.length_take, HN.out]; omega
        have hlt2 : (o.drop (j + 1)).length = n - (j + 1) := by rw [List.length_drop, HN.out]
        have hsl1 := fun w' => slice_head (some ⟨bo, oo, none⟩) n c j (by omega) hnc w'
        obtain ⟨A2, hsl2, hI2⟩ := slice_rest (some ⟨bo, oo, none⟩) n c (j + 1) (by omega) hnc
        have hsl2' : ∀ w', (Instr.slice 23 (.slice (some ⟨bo, oo, none⟩) n c) (some (.int .i64 ((j : Int) + 1))) none none).run Try.prog w' = .ok (.slice A2 (n - (j + 1)) (c - (j + 1))) w' := hsl2
        have HC1 := hide (containsFuncI_bel 111 #[.pointer (some ⟨w.heap.size, 0, none⟩), .pointer (some ⟨yb, 0, none⟩)] (some ⟨bo, oo, none⟩) j c (o.take j) (fun k => decide (idx b ((o.take j).getD k 0) < y)) wc goes_bends1 hlt1 (by omega) (hIA.take j) (fun k x w' hk => hF (o.take j) k x w' (by omega)))
        have HC2 : Hid (∀ w6, Below wc.heap.size wc w6 → Calls Try.prog 98 #[.slice A2 (n - (j + 1)) (c - (j + 1)), .func (.func 111) #[] #[.pointer (some ⟨w.heap.size, 0, none⟩), .pointer (some ⟨yb, 0, none⟩)]] w6 fun e w' => e = .returned (.bool (decide (0 ≤ fidx (n - (j + 1)) fun k => decide (idx b ((o.drop (j + 1)).getD k 0) < y)))) ∧ Below w6.heap.size w6 w') := fun w6 hb6 =>
          containsFuncI_bel 111 #[.pointer (some ⟨w.heap.size, 0, none⟩), .pointer (some ⟨yb, 0, none⟩)] A2 (n - (j + 1)) (c - (j + 1)) (o.drop (j + 1)) (fun k => decide (idx b ((o.drop (j + 1)).getD k 0) < y)) w6 goes_bends1 hlt2 (by omega) ((hI2 wc _ o HN.out hIA).next hb6) (fun k x w' hk hx hb' => hF (o.drop (j + 1)) k x w' (by omega) hx (hb6.trans (hb'.mono hb6.size)))
        have hbe : bendAt o b j = (decide (0 ≤ fidx j fun k => decide (idx b ((o.take j).getD k 0) < y)) && decide (0 ≤ fidx (n - (j + 1)) fun k => decide (idx b ((o.drop (j + 1)).getD k 0) < y))) := by
          rw [bendAt, HN.out, HXJ.out, HY.out]
          congr 3
          · exact fidx_congr fun i hi => by simp [List.getD_eq_getElem?_getD, List.getElem?_take, hi]
          · exact fidx_congr fun i hi => by simp [List.getD_eq_getElem?_getD]
        obtain ⟨r1, hr1⟩ : ∃ r1, decide (0 ≤ fidx j fun k => decide (idx b ((o.take j).getD k 0) < y)) = r1 := ⟨_, rfl⟩
        obtain ⟨r2, hr2⟩ : ∃ r2, decide (0 ≤ fidx (n - (j + 1)) fun k => decide (idx b ((o.drop (j + 1)).getD k 0) < y)) = r2 := ⟨_, rfl⟩
        rw [hr1] at HC1 hbe
        rw [hr2] at HC2 hbe
        have HBT := hide hbe
        have HB01 := hide hb01
        clear hr1 hr2 hbe hsl2 hI2 hF hIA hXB hb1 hb01 hlt1 hlt2 z0 z1
        cases r1 with
        | false =>
          have HNX : Hid (∀ j', 1 ≤ j' → j' < j + 1 → j' + 1 < n → bendAt o b j' = false) := fun j' g1 g2 g3 => by
            rcases (by omega : j' < j ∨ j' = j) with h | rfl
            · exact hno.out j' g1 h g3
            · rw [HBT.out]; rfl
          go_wp2_with fail
          refine (HC1.out).mono ?_
          rintro e w6 ⟨rfl, hb6⟩
          have HB6 := hide (HB01.out.trans (hb6.mono hs01))
          clear hb6
          go_wp2
          go_roundw
          case rel => exact ⟨j + 1, by omega, by omega, by go_num, HNX, HB6.out⟩
          case measure => simp [intOf]; omega
        | true =>
          cases r2 with
          | false =>
            have HNX : Hid (∀ j', 1 ≤ j' → j' < j + 1 → j' + 1 < n → bendAt o b j' = false) := fun j' g1 g2 g3 => by
              rcases (by omega : j' < j ∨ j' = j) with h | rfl
              · exact hno.out j' g1 h g3
              · rw [HBT.out]; rfl
            go_wp2_with fail
            refine (HC1.out).mono ?_
            rintro e w6 ⟨rfl, hb6⟩
            have HB6 := hide hb6
            clear hb6
            go_wp2_with fail
            refine (HC2.out _ HB6.out).mono ?_
            rintro e w7 ⟨rfl, hb7⟩
            have HB7 := hide (HB01.out.trans ((HB6.out.trans (hb7.mono HB6.out.size)).mono hs01))
            clear hb7
            go_wp2
            go_roundw
            case rel => exact ⟨j + 1, by omega, by omega, by go_num, HNX, HB7.out⟩
            case measure => simp [intOf]; omega
          | true =>
            have hrb : rB = true := by rw [← HRB.out]; exact bendB_yes hj1 (by rw [HN.out]; exact hlt) (by rw [HBT.out]; rfl)
            subst hrb
            go_wp2_with fail
            refine (HC1.out).mono ?_
            rintro e w6 ⟨rfl, hb6⟩
            have HB6 := hide hb6
            clear hb6
            go_wp2_with fail
            refine (HC2.out _ HB6.out).mono ?_
            rintro e w7 ⟨rfl, hb7⟩
            have HB7 := hide (HB01.out.trans ((HB6.out.trans (hb7.mono HB6.out.size)).mono hs01))
            clear hb7
            go_wp2
            go_ret
            exact ⟨rfl, HB0.out.trans (HB7.out.mono HB0.out.size)⟩
    · have hle : decide ((j : Int) + 1 < (n : Int)) = false := decide_eq_false (by omega)
      have hrb : rB = false := by rw [← HRB.out]; exact bendB_no fun j' g1 g2 => hno.out j' g1 (by rw [HN.out] at g2; omega) (by rw [HN.out] at g2; exact g2)
      subst hrb
      clear hbel
      go_wp2
      go_ret
      exact ⟨rfl, HB0.out.trans (HBE.out.mono HB0.out.size)⟩
end Go.Proofs.Ytejijddfepgnkaa
