/-
  swap: a walk through the orders that keeps the first one with a property; Better and Order.
-/
import Derived.Test.YtilnbiaabhdfgaaOrders
import Derived.Test.YtilnbiaabhdfgaaImproves
import Derived.Test.YtilnbiaabhdfgaaChoose
import Derived.Test.YtilnbiaabhdfgaaTradeApi
import Derived.Test.YtilnbiaabhdfgaaEqual
import Derived.Test.YtilnbiaabhdfgaaBase
namespace Go.Proofs.Ytilnbiaabhdfgaa
open Go.RowKit
set_option linter.unusedVariables false
set_option linter.unusedSimpArgs false

theorem wrap_eq (x : Int) : IntKind.i64.wrap x = wrap64 x := by
  rw [IntKind.wrap_i64]
  try (unfold wrap64; omega)

def lenO : Option (List Nat) → Nat
  | none => 0
  | some l => l.length
def findStep (p : List Nat → Bool) (s : Option (List Nat)) (l : List Nat) : Bool × Option (List Nat) := if p l then (false, some l) else (s.isNone, s)
theorem runL_find (p : List Nat → Bool) (ls : List (List Nat)) : (runL (findStep p) ls none).2 = ls.find? p := by
  induction ls with
  | nil => rfl
  | cons l ls ih =>
    cases h : p l
    · have e : findStep p none l = (true, none) := by simp [findStep, h]
      simp only [runL, e, if_true, List.find?_cons, h]
      exact ih
    · have e : findStep p none l = (false, some l) := by simp [findStep, h]
      simp [runL, e, List.find?_cons, h]

/-- What has been found lies in the variable fb; all below is as it was in w0. -/
structure FMem (fb : Nat) (w0 : World) (A : Option Addr) (c : Nat) (F : Nat → Prop) (s : Option (List Nat)) (w : World) : Prop where
  box : w.heap[fb]? = some (.cells #[.slice A (lenO s) c] 23 (0, 0))
  no : s = none → A = none ∧ c = 0
  yes : ∀ l, s = some l → 1 ≤ l.length ∧ l.length ≤ c ∧ IntsA w w.heap.size A (up l)
  own : ∀ k, F k ↔ k = fb ∨ ∃ o, A = some ⟨k, o, none⟩
  old : ∀ k, k < fb → w.heap[k]? = w0.heap[k]?
def FInv (fb : Nat) (w0 : World) (F : Nat → Prop) (s : Option (List Nat)) (w : World) : Prop := ∃ A c, FMem fb w0 A c F s w

section
variable {fb c : Nat} {w0 w w' w1 : World} {A : Option Addr} {F : Nat → Prop} {s : Option (List Nat)}
theorem FMem.addr (h : FMem fb w0 A c F s w) {l : List Nat} (hs : s = some l) : ∃ b o, A = some ⟨b, o, none⟩ ∧ b < w.heap.size := by
  obtain ⟨h1, _, h2⟩ := h.yes l hs
  obtain ⟨b, o, e, hb, _⟩ := h2 0 (by rw [up_length]; omega)
  exact ⟨b, o, e, hb⟩
theorem FMem.lt (h : FMem fb w0 A c F s w) : ∀ k, F k → k < w.heap.size := fun k hk => by
  rcases (h.own k).1 hk with rfl | ⟨o, e⟩
  · exact lt_of_block h.box
  · cases hs : s with
    | none => rw [(h.no hs).1] at e; cases e
    | some l =>
      obtain ⟨b, o', e', hb⟩ := h.addr hs
      rw [e] at e'
      injection e' with e'
      injection e' with e' _ _
      omega
theorem FMem.stab (h : FMem fb w0 A c F s w) (hk : ∀ k, F k ∨ k < fb + 1 → w'.heap[k]? = w.heap[k]?) (hs : w.heap.size ≤ w'.heap.size) : FMem fb w0 A c F s w' := by
  refine ⟨(hk fb (.inr (by omega))).trans h.box, h.no, fun l hl => ⟨(h.yes l hl).1, (h.yes l hl).2.1, (h.yes l hl).2.2.keepA fun b o e => ?_⟩, h.own, fun k hkf => (hk k (.inr (by omega))).trans (h.old k hkf)⟩
  have hF : F b := (h.own b).2 (.inr ⟨o, e⟩)
  exact ⟨by have := h.lt b hF; omega, hk b (.inl hF)⟩
theorem FMem.next (h : FMem fb w0 A c F s w) (hb : Below w.heap.size w w') : FMem fb w0 A c F s w' :=
  h.stab (fun k hk => hb.block k (by
    rcases hk with hk | hk
    · exact h.lt k hk
    · have := lt_of_block h.box; omega)) hb.size
/-- Something is found: its copy is stored. -/
theorem FMem.put (h : FMem fb w0 A c F s w) (hb : Below w.heap.size w w1) {l : List Nat} {A' : Option Addr} {n c' : Nat} (hn : l.length = n) (h1 : 1 ≤ n) (hc : n ≤ c') (hI : IntsA w1 w1.heap.size A' (up l)) (hnew : ∀ g, (Value.slice A' n c').ownBlock = some g → w.heap.size ≤ g) :
    ∃ F', FMem fb w0 A' c' F' (some l) (w1.setCell ⟨fb, 0, none⟩ (.slice A' n c')) ∧ (∀ k, F' k → F k ∨ w.heap.size ≤ k) := by
  subst hn
  have hlt := lt_of_block h.box
  have h2 := h.next hb
  refine ⟨fun k => k = fb ∨ ∃ o, A' = some ⟨k, o, none⟩, ⟨blk_set h2.box 0 _, (fun e => nomatch e), fun l' e => ?_, fun k => Iff.rfl, fun k hk => (blk_far _ (by omega)).trans (h2.old k hk)⟩, fun k hk => ?_⟩
  · injection e with e
    subst e
    refine ⟨h1, hc, hI.keepA fun b o e => ?_⟩
    have hb2 := hnew b (by subst e; rfl)
    obtain ⟨b', o', e', hb', _⟩ := hI 0 (by rw [up_length]; omega)
    rw [e] at e'
    injection e' with e'
    injection e' with e' _ _
    exact ⟨by rw [e']; simpa [World.setCell] using hb', blk_far _ (by omega)⟩
  · rcases hk with rfl | ⟨o, e⟩
    · exact .inl ((h.own _).2 (.inl rfl))
    · exact .inr (hnew k (by subst e; rfl))
end

/-- How the memory stands when Better's orders begin: wishes (xb), the argument (wb), the outcome (ob), all below fb. -/
structure BMem (n fb : Nat) (w0 : World) (xb wb ob : Nat) (A X : Option Addr) (c cx : Nat) (W : List (List Nat)) (o : List Nat) : Prop where
  hx : w0.heap[xb]? = some (.cells #[.slice A n c] 49 (0, 0))
  hw : w0.heap[wb]? = some (.cells #[.slice A n c] 22 (0, 0))
  ho : w0.heap[ob]? = some (.cells #[.slice X n cx] 23 (0, 0))
  lt : xb < fb ∧ wb < fb ∧ ob < fb
  rows : RowsA w0 fb A (upp W)
  ints : IntsA w0 fb X (up o)

theorem goes_better1 : Goes Try.prog 63 := goes_of Try.func63 rfl rfl

/-- What a step of the search leaves. -/
def FPost (p : List Nat → Bool) (fb : Nat) (w0 : World) (F : Nat → Prop) (s : Option (List Nat)) (l : List Nat) (w : World) (e : Ending) (w' : World) : Prop :=
  ∃ F', e = .returned (.bool (findStep p s l).1) ∧ FInv fb w0 F' (findStep p s l).2 w' ∧ (∀ k, F' k → F k ∨ w.heap.size ≤ k) ∧ (∀ k, F' k → k < w'.heap.size) ∧ Only F w w'

set_option maxRecDepth 100000 in
set_option maxHeartbeats 1600000 in
theorem better1_any {n fb : Nat} {w0 : World} {xb wb ob : Nat} {A X : Option Addr} {c cx : Nat} {W : List (List Nat)} {o : List Nat} (hn : n ≤ 59) (hn1 : 1 ≤ n) (hB : BMem n fb w0 xb wb ob A X c cx W o) (hlen : W.length = n) (hrows : ∀ i, i < n → Ord (W.getD i []) n) (ho : Ord o n)
    (F : Nat → Prop) (s : Option (List Nat)) (w : World) (Y : Option Addr) (cy : Nat) (l : List Nat) (hl : Ord l n) (hi : FInv fb w0 F s w) (hY : IntsA w w.heap.size Y (up l)) (hcy : n ≤ cy) :
    Calls Try.prog 63 (#[.slice Y n cy] ++ #[.pointer (some ⟨xb, 0, none⟩), .pointer (some ⟨wb, 0, none⟩), .pointer (some ⟨ob, 0, none⟩), .pointer (some ⟨fb, 0, none⟩)]) w (FPost (fun y => impr W n (2 ^ n - 1) y o) fb w0 F s l w) := by
  obtain ⟨A0, c0, hm⟩ := hi
  have hq := fun (w : World) (a : Option Addr) (n c n' c' : Nat) => Lib.run_eql_slice_nil (P := Try.prog) w 23 _ a n c n' c' Try.underlying23
  have hL := full_nat n (by omega)
  have hfb := lt_of_block hm.box
  have hlt := hB.lt
  have k0 := blk_cell ((hm.old xb hlt.1).trans hB.hx) 0
  have k1 := blk_cell ((hm.old wb hlt.2.1).trans hB.hw) 0
  have k2 := blk_cell ((hm.old ob hlt.2.2).trans hB.ho) 0
  simp only [List.getElem?_toArray, List.getElem?_cons_zero] at k0 k1 k2
  have hA : RowsA w fb A (upp W) := hB.rows.keep fun p hp => World.cell?_of_block (hm.old p.block hp)
  have hX : IntsA w fb X (up o) := hB.ints.keep fun p hp => World.cell?_of_block (hm.old p.block hp)
  have hC : Hid (∀ w', Below w.heap.size w w' → Calls Try.prog 64 #[.slice A n c, .int .i64 ((2 ^ n - 1 : Nat) : Int), .slice Y n cy, .slice X n cx] w' fun e w'' => e = .returned (.bool (impr W n (2 ^ n - 1) l o)) ∧ Below w.heap.size w w'') := fun w' hw' =>
    (improves_any A Y X n c cy cx w.heap.size w.heap.size w.heap.size (2 ^ n - 1) W l o w' hlen (by omega) hrows (Nat.lt_of_lt_of_le full_lt (Nat.pow_le_pow_right (by decide) (by omega))) (hA.top.below hw') hl ho (hY.below hw') (hX.top.below hw')).mono fun e w'' h => ⟨h.1, hw'.trans (h.2.mono hw'.size)⟩
  generalize hr : impr W n (2 ^ n - 1) l o = r at *
  have HR := hide hr
  have HM := hide hm
  have HL := hide hl
  have HLL := hide hL
  generalize hfull : ((2 ^ n - 1 : Nat) : Int) = full at *
  simp only [List.append_toArray, List.cons_append, List.nil_append]
  clear hm hl hr hA hX hB hlen hrows ho hfull
  go_enter Try.func63, Try.ntmps63
  go_wp2
  refine wp_region_below (by kernel_rfl) (by kernel_rfl) ?_
  have hx : xb < w.heap.size := by omega
  have hw : wb < w.heap.size := by omega
  have ho : ob < w.heap.size := by omega
  refine wpQuiet_val (.slice A n c) rfl (fun w' hw' => by have e0 := (hw'.cell (p := ⟨xb, 0, none⟩) hx).trans k0; go_simp) ?_
  simp only [put_lit, List.set_cons_succ, List.set_cons_zero]
  refine wpQuiet_val (.slice A n c) rfl (fun w' hw' => by have e0 := (hw'.cell (p := ⟨wb, 0, none⟩) hw).trans k1; go_simp) ?_
  simp only [put_lit, List.set_cons_succ, List.set_cons_zero]
  refine wpQuiet_val (.int .i64 n) rfl (fun w' hw' => by go_simp) ?_
  simp only [put_lit, List.set_cons_succ, List.set_cons_zero]
  refine wpQuiet_val (.int .i64 (wrap64 (2 ^ n))) rfl (fun w' hw' => by go_simp; exact wrap_eq _) ?_
  simp only [put_lit, List.set_cons_succ, List.set_cons_zero]
  refine wpQuiet_val (.int .i64 full) rfl (fun w' hw' => by go_simp; rw [wrap_eq]; exact hL) ?_
  simp only [put_lit, List.set_cons_succ, List.set_cons_zero]
  refine wpQuiet_move _ (.slice Y n cy) rfl rfl rfl ?_
  simp only [put_lit, List.set_cons_succ, List.set_cons_zero]
  refine wpQuiet_val (.slice X n cx) rfl (fun w' hw' => by have e0 := (hw'.cell (p := ⟨ob, 0, none⟩) ho).trans k2; go_simp) ?_
  simp only [put_lit, List.set_cons_succ, List.set_cons_zero]
  refine wpQuiet_call 64 #[.slice A n c, .int .i64 full, .slice Y n cy, .slice X n cx] (.bool r) rfl (fun w' hw' => by go_simp) hC.out ?_
  simp only [put_lit, List.set_cons_succ, List.set_cons_zero]
  refine wpQuiet_nil ?_
  intro w1 hb1
  have h1 := HM.out.next hb1
  have f0 := blk_cell h1.box 0
  have f1 := blk_free h1.box 0
  simp only [List.getElem?_toArray, List.getElem?_cons_zero] at f0
  have hsz1 := hb1.size
  cases r
  · cases s with
    | none =>
      obtain ⟨rfl, rfl⟩ := h1.no rfl
      have H1 := hide h1
      clear h1
      simp only [lenO] at f0
      go_wp2
      go_ret
      have e : findStep (fun y => impr W n (2 ^ n - 1) y o) none l = (true, none) := by simp [findStep, HR.out]
      exact ⟨F, by rw [e]; rfl, by rw [e]; exact ⟨_, _, H1.out⟩, fun k hk => .inl hk, H1.out.lt, Only.of_below hb1⟩
    | some l0 =>
      obtain ⟨b, o', rfl, hb⟩ := h1.addr rfl
      have H1 := hide h1
      clear h1
      go_wp2
      go_ret
      have e : findStep (fun y => impr W n (2 ^ n - 1) y o) (some l0) l = (false, some l0) := by simp [findStep, HR.out]
      exact ⟨F, by rw [e]; rfl, by rw [e]; exact ⟨_, _, H1.out⟩, fun k hk => .inl hk, H1.out.lt, Only.of_below hb1⟩
  · have H1 := hide h1
    clear h1
    have HCL := hide (clone_any Y n cy w1.heap.size (up l) w1 (by rw [up_length]; exact HL.out.len) (by omega) (hY.next hb1))
    go_wp2_with (go_at_call 60; refine (HCL.out).mono ?_; rintro e w2 ⟨A', c', rfl, hc', hI', hnil, hb2, hnew⟩; obtain ⟨F', hm', hF'⟩ := H1.out.put hb2 (n := n) HL.out.len hn1 hc' hI' hnew; have f2 := blk_cell (H1.out.next hb2).box 0; have f3 := blk_free (H1.out.next hb2).box 0; simp only [List.getElem?_toArray, List.getElem?_cons_zero] at f2; have g2 := blk_cell hm'.box 0; simp only [List.getElem?_toArray, List.getElem?_cons_zero] at g2; obtain ⟨b', o', hA', hb'⟩ := hm'.addr rfl; subst hA'; have HM' := hide hm'; have HF' := hide hF'; have HB2 := hide hb2; clear hm' hF' hI' hnil hnew hb2)
    go_ret
    have e : findStep (fun y => impr W n (2 ^ n - 1) y o) s l = (false, some l) := by simp [findStep, HR.out]
    refine ⟨F', by rw [e]; rfl, by rw [e]; exact ⟨_, _, HM'.out⟩, fun k hk => ?_, HM'.out.lt, ?_⟩
    · rcases HF'.out k hk with h | h
      · exact .inl h
      · exact .inr (by omega)
    · exact (Only.of_below (hb1.trans (HB2.out.mono hb1.size))).setCell (.inl ((HM.out.own _).2 (.inl rfl))) _
end Go.Proofs.Ytilnbiaabhdfgaa
