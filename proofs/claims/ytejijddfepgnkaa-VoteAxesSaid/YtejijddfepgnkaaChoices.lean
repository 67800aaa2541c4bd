/-
  vote: choices: the function that gives all rising choices of k numbers below n; the loop's body is whatever keeps yield's contract.
-/
import Derived.Test.YtejijddfepgnkaaOrdersV
import Derived.Test.YtejijddfepgnkaaChPlain
namespace Go.Proofs.Ytejijddfepgnkaa
open Go.RowKit
set_option linter.unusedVariables false
set_option linter.unusedSimpArgs false

section
variable {σ : Type} {l0 B0 N0 : Nat} {S : List Nat → Prop} {live : σ → Prop} {step : σ → List Nat → Bool × σ} {Inv : (Nat → Prop) → σ → World → Prop} {n kn : Nat}

/-- The call's own blocks: yield (B0), the choice as far as it has grown (B0 + 1), the growing function (B0 + 2), and the choice's row; n (N0) and k (N0 + 1) lay there before. -/
structure CMem (w : World) (l0 B0 N0 n kn : Nat) (l : List Nat) (m : Nat) (A : Option Addr) (c : Nat) : Prop where
  len : l.length = m
  yb : w.heap[B0]? = some (.cells #[.func (.yield l0) #[] #[]] 95 (0, 0))
  lb : w.heap[B0 + 1]? = some (.cells #[.slice A m c] 23 (0, 0))
  gb : w.heap[B0 + 2]? = some (.cells #[.func (.func 102) #[] #[.pointer (some ⟨B0 + 1, 0, none⟩), .pointer (some ⟨N0 + 1, 0, none⟩), .pointer (some ⟨B0, 0, none⟩), .pointer (some ⟨N0, 0, none⟩), .pointer (some ⟨B0 + 2, 0, none⟩)]] 100 (0, 0))
  nb : w.heap[N0]? = some (.cells #[.int .i64 n] 3 (0, 0))
  kb : w.heap[N0 + 1]? = some (.cells #[.int .i64 kn] 3 (0, 0))
  nB : N0 + 1 < B0
  row : w.ownsRow (B0 + 3) 3 1 (.slice A m c) m ((up l).map (Value.int .i64))
  mc : m ≤ c

/-- Whom the round writes to: none of the call's own blocks, nor n and k. -/
structure COk (F : Nat → Prop) (w : World) (B0 N0 : Nat) (v : Value) : Prop where
  lt : ∀ k, F k → k < w.heap.size
  off : ∀ k, F k → k < B0 ∨ B0 + 3 ≤ k
  offn : ∀ k, F k → k ≠ N0 ∧ k ≠ N0 + 1
  row : ∀ k, F k → v.ownBlock ≠ some k

/-- What the growing function leaves. -/
def CPost (step : σ → List Nat → Bool × σ) (Inv : (Nat → Prop) → σ → World → Prop) (l0 B0 N0 n kn m d f : Nat) (l : List Nat) (s : σ) (F : Nat → Prop) (A : Option Addr) (c : Nat) (w : World) (e : Ending) (w' : World) : Prop :=
  ∃ F', e = .returned (.bool (runL step (chsG n d f l) s).1) ∧ Inv F' (runL step (chsG n d f l) s).2 w' ∧ (∀ k, F' k → F k ∨ w.heap.size ≤ k) ∧ (∀ k, F' k → k < w'.heap.size) ∧
    Only (fun k => F k ∨ k = B0 + 1 ∨ (Value.slice A m c).ownBlock = some k) w w' ∧
    ((runL step (chsG n d f l) s).1 = true → ∃ A' c', CMem w' l0 B0 N0 n kn l m A' c' ∧ COk F' w' B0 N0 (.slice A' m c') ∧ ∀ k, (Value.slice A' m c').ownBlock = some k → (Value.slice A m c).ownBlock = some k ∨ w.heap.size ≤ k)

set_option maxHeartbeats 1600000 in
theorem ch_zero (hmo : YOk Try.prog l0 1 B0 S live step Inv) (hn60 : kn ≤ 60) (f : Nat) (l : List Nat) (s : σ) (F : Nat → Prop) (A : Option Addr) (c : Nat) (w : World) (hl : S l) (hs : live s) (hm : CMem w l0 B0 N0 n kn l kn A c) (hi : Inv F s w) (hF : COk F w B0 N0 (.slice A kn c)) :
    Calls Try.prog 102 #[.int .i64 (f : Nat), .pointer (some ⟨B0 + 1, 0, none⟩), .pointer (some ⟨N0 + 1, 0, none⟩), .pointer (some ⟨B0, 0, none⟩), .pointer (some ⟨N0, 0, none⟩), .pointer (some ⟨B0 + 2, 0, none⟩)] w (CPost step Inv l0 B0 N0 n kn kn 0 f l s F A c w) := by
  have hB0 : B0 + 2 < w.heap.size := lt_of_block hm.gb
  have HC := hide (clone_any A kn c w.heap.size (up l) w.drew (by rw [up_length]; exact hm.len) (by omega) ((ints_of_own hm.row).keep fun _ _ => rfl))
  have hY : ∀ (w1 : World) (A' : Option Addr) (c' : Nat), Below w.heap.size w w1 → kn ≤ c' → IntsA w1 w1.heap.size A' (up l) → (∀ g, (Value.slice A' kn c').ownBlock = some g → w.heap.size ≤ g) →
      YieldAt Fence.wide 1 Try.prog l0 #[.slice A' kn c'] w1 (CPost step Inv l0 B0 N0 n kn kn 0 f l s F A c w) := by
    intro w1 A' c' hb hc' hi' hg'
    have hln := hm.len
    have h1 := hmo.call F s w1 A' c' l hl hs (hmo.stab _ _ _ _ hi (fun k hk => hb.block k (by rcases hk with h | h; exact hF.lt k h; omega)) hb.size hb.tape) (by have := hb.size; omega) (fun k hk => by have := hF.lt k hk; have := hb.size; omega) hi' (by omega)
      (fun k hk => by rw [hln] at hk; have := hg' k hk; exact ⟨by omega, fun hf => by have := hF.lt k hf; omega⟩)
    obtain ⟨fn, tmps, assign, body, hy, hR⟩ := h1
    rw [hln] at hy hR
    refine ⟨fn, tmps, assign, body, hy, hR.mono ?_⟩
    rintro e w' ⟨F', rfl, g1, g2, g3, g4⟩
    have e0 : runL step (chsG n 0 f l) s = step s l := runL_one step l s
    have keep : ∀ k, k < w.heap.size → ¬ F k → w'.heap[k]? = w.heap[k]? := fun k hk hn => (g4.block k (by have := hb.size; omega) hn).trans (hb.block k hk)
    have nof : ∀ k, B0 ≤ k → k < B0 + 3 → ¬ F k := fun k hk hk4 hf => by have := hF.off k hf; omega
    have own : ∀ k, (Value.slice A kn c).ownBlock = some k → k < w.heap.size ∧ ¬ F k := fun k hk => ⟨(own_lt hm.row k hk).2, fun hf => hF.row k hf hk⟩
    have hsz : w.heap.size ≤ w'.heap.size := Nat.le_trans hb.size g4.size
    have hsub : ∀ k, F' k → F k ∨ w.heap.size ≤ k := fun k hk => by
      rcases g2 k hk with h | h | h
      · exact .inl h
      · exact .inr (hg' k h)
      · have := hb.size; exact .inr (by omega)
    refine ⟨F', by rw [e0], by rw [e0]; exact g1, hsub, g3, ?_, fun _ => ⟨A, c, ⟨hm.len, ?_, ?_, ?_, ?_, ?_, hm.nB, ?_, hm.mc⟩, ⟨g3, ?_, ?_, ?_⟩, fun k hk => .inl hk⟩⟩
    · exact ((Only.of_below hb).trans g4 (fun q _ hq => .inl hq))
    · exact (keep _ (by omega) (nof _ (by omega) (by omega))).trans hm.yb
    · exact (keep _ (by omega) (nof _ (by omega) (by omega))).trans hm.lb
    · exact (keep _ (by omega) (nof _ (by omega) (by omega))).trans hm.gb
    · have hN := hm.nB
      exact (keep _ (by omega) (fun hf => (hF.offn _ hf).1 rfl)).trans hm.nb
    · have hN := hm.nB
      exact (keep _ (by omega) (fun hf => (hF.offn _ hf).2 rfl)).trans hm.kb
    · exact own_same hm.row fun g hg => keep g (own g hg).1 (own g hg).2
    · intro k hk
      rcases hsub k hk with h | h
      · exact hF.off k h
      · omega
    · intro k hk
      rcases hsub k hk with h | h
      · exact hF.offn k h
      · have hN := hm.nB
        omega
    · intro k hk e
      obtain ⟨e1, e2⟩ := own k e
      rcases hsub k hk with h | h
      · exact e2 h
      · omega
  have HY := hide hY
  have c0 := blk_cell hm.lb 0
  have c1 := blk_cell hm.kb 0
  have c2 := blk_cell hm.yb 0
  simp only [List.getElem?_toArray, List.getElem?_cons_zero] at c0 c1 c2
  have hnn : ((kn : Int) == (kn : Int)) = true := by simp
  clear hm hF hi hmo hl hs hY
  refine (callsIn_wide (n := 2)).1 (callsIn_of_wp Try.func102 rfl trivial ?_)
  simp only [Try.ntmps102, List.size_toArray, List.length_cons, List.length_nil, Nat.reduceAdd, Nat.reduceSub, Array.replicate_succ, Array.replicate_zero, List.push_toArray, List.append_toArray, List.nil_append, List.cons_append]
  gi_wp2
  refine wpIn_region_any (by kernel_rfl) ?_
  change wpAnyIn _ _ _ _ _ _ _ _ _ (World.drew _)
  show wpAnyIn _ _ _ _ _ _ _ (#[false, false, false, false, false] : Array Bool) _ _
  refine wpAnyIn_ready (rs := [0, 1]) (by kernel_rfl) (by simp) ?_
  refine AllReadyIn.cons rfl (fun K hK => ?_) (AllReadyIn.cons rfl (fun K hK => ?_) AllReadyIn.nil)
  · go_simp
    refine hK _ _ ?_
    clear hK K
    refine wpAnyIn_ready (rs := [1]) (by kernel_rfl) (by simp) ?_
    refine AllReadyIn.cons rfl (fun K hK => ?_) AllReadyIn.nil
    go_simp
    refine hK _ _ ?_
    clear hK K
    refine wpAnyIn_ready (rs := [2]) (by kernel_rfl) (by simp) ?_
    refine AllReadyIn.cons rfl (fun K hK => ?_) AllReadyIn.nil
    go_simp
    refine ⟨trivial, ?_⟩
    refine (callsIn_wide.2 HC.out).mono ?_
    rintro e w1 ⟨A1, k1, rfl, h1, h2, h3, h4, h5⟩
    refine hK _ _ ?_
    clear hK K
    have hb1 : Below w.heap.size w w1 := ((Below.refl _ w).drew).trans h4
    obtain ⟨fn, tm, asg, bo, hy, hR⟩ := HY.out w1 A1 k1 hb1 h1 h2 h5
    replace c2 := (hb1.cell (p := ⟨B0, 0, none⟩) (by show B0 < _; omega)).trans c2
    clear h1 h2 h3 h4 h5 hb1
    refine wpAnyIn_ready (rs := [3]) (by kernel_rfl) (by simp) ?_
    refine AllReadyIn.cons rfl (fun K hK => ?_) AllReadyIn.nil
    go_simp
    refine hR.mono ?_
    intro e w9 hp
    obtain ⟨v, rfl⟩ : ∃ v, e = .returned v := by obtain ⟨F9, h9, _⟩ := hp; exact ⟨_, h9⟩
    have HP := hide hp
    clear hp
    refine hK _ _ ?_
    clear hK K
    refine wpAnyIn_ready (rs := [4]) (by kernel_rfl) (by simp) ?_
    refine AllReadyIn.cons rfl (fun K hK => ?_) AllReadyIn.nil
    go_simp
    refine hK _ _ ?_
    clear hK K
    refine wpAnyIn_done (by kernel_rfl) ?_ _
    gi_wp2
    go_ret
    exact HP.out
  · go_simp
    refine hK _ _ ?_
    clear hK K
    refine wpAnyIn_ready (rs := [0, 2]) (by kernel_rfl) (by simp) ?_
    refine AllReadyIn.cons rfl (fun K hK => ?_) (AllReadyIn.cons rfl (fun K hK => ?_) AllReadyIn.nil)
    · go_simp
      refine hK _ _ ?_
      clear hK K
      refine wpAnyIn_ready (rs := [2]) (by kernel_rfl) (by simp) ?_
      refine AllReadyIn.cons rfl (fun K hK => ?_) AllReadyIn.nil
      go_simp
      refine ⟨trivial, ?_⟩
      refine (callsIn_wide.2 HC.out).mono ?_
      rintro e w1 ⟨A1, k1, rfl, h1, h2, h3, h4, h5⟩
      refine hK _ _ ?_
      clear hK K
      have hb1 : Below w.heap.size w w1 := ((Below.refl _ w).drew).trans h4
      obtain ⟨fn, tm, asg, bo, hy, hR⟩ := HY.out w1 A1 k1 hb1 h1 h2 h5
      replace c2 := (hb1.cell (p := ⟨B0, 0, none⟩) (by show B0 < _; omega)).trans c2
      clear h1 h2 h3 h4 h5 hb1
      refine wpAnyIn_ready (rs := [3]) (by kernel_rfl) (by simp) ?_
      refine AllReadyIn.cons rfl (fun K hK => ?_) AllReadyIn.nil
      go_simp
      refine hR.mono ?_
      intro e w9 hp
      obtain ⟨v, rfl⟩ : ∃ v, e = .returned v := by obtain ⟨F9, h9, _⟩ := hp; exact ⟨_, h9⟩
      have HP := hide hp
      clear hp
      refine hK _ _ ?_
      clear hK K
      refine wpAnyIn_ready (rs := [4]) (by kernel_rfl) (by simp) ?_
      refine AllReadyIn.cons rfl (fun K hK => ?_) AllReadyIn.nil
      go_simp
      refine hK _ _ ?_
      clear hK K
      refine wpAnyIn_done (by kernel_rfl) ?_ _
      gi_wp2
      go_ret
      exact HP.out
    · go_simp
      refine ⟨trivial, ?_⟩
      refine (callsIn_wide.2 HC.out).mono ?_
      rintro e w1 ⟨A1, k1, rfl, h1, h2, h3, h4, h5⟩
      refine hK _ _ ?_
      clear hK K
      have hb1 : Below w.heap.size w w1 := ((Below.refl _ w).drew).trans h4
      obtain ⟨fn, tm, asg, bo, hy, hR⟩ := HY.out w1 A1 k1 hb1 h1 h2 h5
      replace c2 := (hb1.cell (p := ⟨B0, 0, none⟩) (by show B0 < _; omega)).trans c2
      clear h1 h2 h3 h4 h5 hb1
      refine wpAnyIn_ready (rs := [0]) (by kernel_rfl) (by simp) ?_
      refine AllReadyIn.cons rfl (fun K hK => ?_) AllReadyIn.nil
      go_simp
      refine hK _ _ ?_
      clear hK K
      refine wpAnyIn_ready (rs := [3]) (by kernel_rfl) (by simp) ?_
      refine AllReadyIn.cons rfl (fun K hK => ?_) AllReadyIn.nil
      go_simp
      refine hR.mono ?_
      intro e w9 hp
      obtain ⟨v, rfl⟩ : ∃ v, e = .returned v := by obtain ⟨F9, h9, _⟩ := hp; exact ⟨_, h9⟩
      have HP := hide hp
      clear hp
      refine hK _ _ ?_
      clear hK K
      refine wpAnyIn_ready (rs := [4]) (by kernel_rfl) (by simp) ?_
      refine AllReadyIn.cons rfl (fun K hK => ?_) AllReadyIn.nil
      go_simp
      refine hK _ _ ?_
      clear hK K
      refine wpAnyIn_done (by kernel_rfl) ?_ _
      gi_wp2
      go_ret
      exact HP.out

/-- Behind the append of the next number and the store of the longer order. -/
theorem ch_pushed {w w1 : World} {l : List Nat} {m c1 g cg x : Nat} {s1 : σ} {F1 : Nat → Prop} {A1 : Option Addr} (hmo : YOk Try.prog l0 1 B0 S live step Inv) (hm : CMem w l0 B0 N0 n kn l m A1 c1) (hi : Inv F1 s1 w) (hF : COk F1 w B0 N0 (.slice A1 m c1))
    (hown : w1.ownsRow (B0 + 3) 3 1 (.slice (some ⟨g, 0, none⟩) (m + 1) cg) (m + 1) ((up l).map (Value.int .i64) ++ [Value.int .i64 (x : Int)])) (hc : m + 1 ≤ cg) (hg1 : (Value.slice A1 m c1).ownBlock = some g ∨ w.heap.size ≤ g)
    (hgr : w.grownBy w1 (Value.slice A1 m c1).ownBlock) :
    CMem (w1.setCell ⟨B0 + 1, 0, none⟩ (.slice (some ⟨g, 0, none⟩) (m + 1) cg)) l0 B0 N0 n kn (l ++ [x]) (m + 1) (some ⟨g, 0, none⟩) cg ∧ Inv F1 s1 (w1.setCell ⟨B0 + 1, 0, none⟩ (.slice (some ⟨g, 0, none⟩) (m + 1) cg)) ∧
      COk F1 (w1.setCell ⟨B0 + 1, 0, none⟩ (.slice (some ⟨g, 0, none⟩) (m + 1) cg)) B0 N0 (.slice (some ⟨g, 0, none⟩) (m + 1) cg) ∧
      Only (fun q => q = B0 + 1 ∨ (Value.slice A1 m c1).ownBlock = some q) w (w1.setCell ⟨B0 + 1, 0, none⟩ (.slice (some ⟨g, 0, none⟩) (m + 1) cg)) := by
  have hgl := lt_of_block hm.gb
  have hnB := hm.nB
  have own : ∀ q, (Value.slice A1 m c1).ownBlock = some q → B0 + 3 ≤ q ∧ q < w.heap.size := fun q hq => own_lt hm.row q hq
  have hgB : B0 + 3 ≤ g := by
    rcases hg1 with h | h
    · exact (own g h).1
    · omega
  have keep : ∀ q, q < w.heap.size → (Value.slice A1 m c1).ownBlock ≠ some q → q ≠ B0 + 1 → (w1.setCell ⟨B0 + 1, 0, none⟩ (.slice (some ⟨g, 0, none⟩) (m + 1) cg)).heap[q]? = w.heap[q]? := fun q hq h1 h2 =>
    (blk_far _ h2).trans (hgr.block q hq (fun e => h1 e.symm))
  have low : ∀ q, q < B0 + 3 → (Value.slice A1 m c1).ownBlock ≠ some q := fun q hq e => by have := (own q e).1; omega
  have hsz : w.heap.size ≤ (w1.setCell ⟨B0 + 1, 0, none⟩ (.slice (some ⟨g, 0, none⟩) (m + 1) cg)).heap.size := by have := hgr.size; simpa [World.setCell] using this
  refine ⟨⟨by simp [hm.len], ?_, ?_, ?_, ?_, ?_, hm.nB, ?_, hc⟩, ?_, ⟨?_, hF.off, hF.offn, ?_⟩, ?_⟩
  · exact (keep _ (by omega) (low _ (by omega)) (by omega)).trans hm.yb
  · exact blk_set ((hgr.block _ (by omega) (fun e => low (B0 + 1) (by omega) e.symm)).trans hm.lb) 0 _
  · exact (keep _ (by omega) (low _ (by omega)) (by omega)).trans hm.gb
  · exact (keep _ (by omega) (low _ (by omega)) (by omega)).trans hm.nb
  · exact (keep _ (by omega) (low _ (by omega)) (by omega)).trans hm.kb
  · have e : (up (l ++ [x])).map (Value.int .i64) = (up l).map (Value.int .i64) ++ [Value.int .i64 (x : Int)] := by simp [up]
    rw [e]
    exact own_far hown (fun gg hgg => by have e9 : g = gg := (by simpa [Value.ownBlock] using hgg); omega) _
  · refine hmo.stab _ _ _ _ hi (fun q hq => ?_) hsz (by show w1.tape = _; exact hgr.tape)
    rcases hq with hq | hq
    · have h1 := hF.lt q hq
      have h2 := hF.off q hq
      have h3 := hF.row q hq
      exact keep q h1 h3 (by omega)
    · exact keep q (by omega) (low q (by omega)) (by omega)
  · intro q hq; have := hF.lt q hq; omega
  · intro q hq e
    have e9 : g = q := by simpa [Value.ownBlock] using e
    subst e9
    rcases hg1 with h | h
    · exact hF.row g hq h
    · have := hF.lt g hq; omega
  · exact (Only.of_grown hgr (fun q hq => .inr hq)).setCell (.inl (.inl rfl)) _

/-- Behind the growing function's own call, where it wants more: the order is as it was. -/
theorem ch_popped {w3 : World} {l : List Nat} {m c3 x : Nat} {s3 : σ} {F3 : Nat → Prop} {A3 : Option Addr} (hmo : YOk Try.prog l0 1 B0 S live step Inv) (hm : CMem w3 l0 B0 N0 n kn (l ++ [x]) (m + 1) A3 c3) (hi : Inv F3 s3 w3) (hF : COk F3 w3 B0 N0 (.slice A3 (m + 1) c3)) :
    CMem (w3.setCell ⟨B0 + 1, 0, none⟩ (.slice A3 m c3)) l0 B0 N0 n kn l m A3 c3 ∧ Inv F3 s3 (w3.setCell ⟨B0 + 1, 0, none⟩ (.slice A3 m c3)) ∧ COk F3 (w3.setCell ⟨B0 + 1, 0, none⟩ (.slice A3 m c3)) B0 N0 (.slice A3 m c3) := by
  have hgl := lt_of_block hm.gb
  have hnB := hm.nB
  have hob : (Value.slice A3 (m + 1) c3).ownBlock = (Value.slice A3 m c3).ownBlock := by cases A3 <;> rfl
  have own : ∀ q, (Value.slice A3 m c3).ownBlock = some q → B0 + 3 ≤ q ∧ q < w3.heap.size := fun q hq => own_lt hm.row q (by rw [hob]; exact hq)
  have hll : l.length = m := by have := hm.len; simp at this; omega
  have keep : ∀ q, q ≠ B0 + 1 → (w3.setCell ⟨B0 + 1, 0, none⟩ (.slice A3 m c3)).heap[q]? = w3.heap[q]? := fun q h => blk_far _ h
  refine ⟨⟨hll, ?_, blk_set hm.lb 0 _, ?_, ?_, ?_, hm.nB, ?_, by have := hm.mc; omega⟩, ?_, ⟨?_, hF.off, hF.offn, ?_⟩⟩
  · exact (keep _ (by omega)).trans hm.yb
  · exact (keep _ (by omega)).trans hm.gb
  · exact (keep _ (by omega)).trans hm.nb
  · exact (keep _ (by omega)).trans hm.kb
  · have h1 := own_take hm.row (m := m) (by omega)
    have e : ((up (l ++ [x])).map (Value.int .i64)).take m = (up l).map (Value.int .i64) := by
      simp only [up, List.map_append, List.map_map]
      rw [List.take_append_of_le_length (by simp; omega), List.take_of_length_le (by simp; omega)]
    rw [e] at h1
    exact own_far h1 (fun gg hgg => by have := (own gg hgg).1; omega) _
  · refine hmo.stab _ _ _ _ hi (fun q hq => keep q ?_) (by simp [World.setCell]) rfl
    rcases hq with hq | hq
    · have := hF.off q hq; omega
    · omega
  · intro q hq; have := hF.lt q hq; simpa [World.setCell] using this
  · intro q hq e; exact hF.row q hq (by rw [hob]; exact e)

/-- What holds at the head of the loop over the next number: the numbers below x have been tried. -/
structure CLoop (live : σ → Prop) (step : σ → List Nat → Bool × σ) (Inv : (Nat → Prop) → σ → World → Prop) (l0 B0 N0 n kn m d f : Nat) (l : List Nat) (s : σ) (F : Nat → Prop) (A : Option Addr) (c : Nat) (w wr : World)
    (x : Nat) (F1 : Nat → Prop) (s1 : σ) (A1 : Option Addr) (c1 : Nat) : Prop where
  inv : Inv F1 s1 wr
  mem : CMem wr l0 B0 N0 n kn l m A1 c1
  ok : COk F1 wr B0 N0 (.slice A1 m c1)
  sub : ∀ q, F1 q → F q ∨ w.heap.size ≤ q
  only : Only (fun q => F q ∨ q = B0 + 1 ∨ (Value.slice A m c).ownBlock = some q) w wr
  own : ∀ q, (Value.slice A1 m c1).ownBlock = some q → (Value.slice A m c).ownBlock = some q ∨ w.heap.size ≤ q
  run : runL step (chsTo n d f l x) s = (true, s1)
  live : live s1

set_option maxRecDepth 100000 in
set_option maxHeartbeats 3200000 in
theorem ch_any (hmo : YOk Try.prog l0 1 B0 S live step Inv) (hk60 : kn ≤ 60) (hn60 : n ≤ 60) : ∀ (d f : Nat) (l : List Nat) (m : Nat) (s : σ) (F : Nat → Prop) (A : Option Addr) (c : Nat) (w : World), m + d = kn → f ≤ n → (∀ o ∈ chsG n d f l, S o) → live s → CMem w l0 B0 N0 n kn l m A c → Inv F s w → COk F w B0 N0 (.slice A m c) →
    Calls Try.prog 102 #[.int .i64 (f : Nat), .pointer (some ⟨B0 + 1, 0, none⟩), .pointer (some ⟨N0 + 1, 0, none⟩), .pointer (some ⟨B0, 0, none⟩), .pointer (some ⟨N0, 0, none⟩), .pointer (some ⟨B0 + 2, 0, none⟩)] w (CPost step Inv l0 B0 N0 n kn m d f l s F A c w) := by
  intro d
  induction d with
  | zero =>
    intro f l m s F A c w hmd hf hS hs hm hi hF
    obtain rfl : kn = m := by omega
    exact ch_zero hmo hk60 f l s F A c w (hS l (by simp [chsG])) hs hm hi hF
  | succ d ih =>
    intro f l m s F A c w hmd hf hS hs hm hi hF
    have IH := hide ih
    clear ih
    have hmk : m < kn := by omega
    have hne : ((m : Int) == (kn : Int)) = false := by simp; omega
    have HSS := hide hS
    have HNX := hide hmo.next
    have hnB := hm.nB
    have g0 : CLoop live step Inv l0 B0 N0 n kn m d f l s F A c w w f F s A c := ⟨hi, hm, hF, fun q hq => .inl hq, Only.refl _ w, fun q hq => .inl hq, by rw [chsTo_zero]; rfl, hs⟩
    have c0 := blk_cell hm.lb 0
    have c1 := blk_cell hm.kb 0
    have c2 := blk_cell hm.nb 0
    simp only [List.getElem?_toArray, List.getElem?_cons_zero] at c0 c1 c2
    have HMO := hide hmo
    clear hm hi hF hS hs hmo
    go_enter Try.func102, Try.ntmps102
    go_wp2
    go_loopw [8] (fun i wr => ∃ (x : Nat) (F1 : Nat → Prop) (s1 : σ) (A1 : Option Addr) (c1 : Nat), f ≤ x ∧ x ≤ n ∧ i = .int .i64 x ∧ CLoop live step Inv l0 B0 N0 n kn m d f l s F A c w wr x F1 s1 A1 c1) (fun i _ => n - (intOf i).toNat)
    case atStart => exact ⟨f, F, s, A, c, Nat.le_refl _, hf, rfl, g0⟩
    case round =>
      clear c0 c1 c2 g0
      obtain ⟨x, F1, s1, A1, c1, hfx, hxn, rfl, hg⟩ := hrel
      have hm := hg.mem
      have q0 := blk_cell hm.lb 0
      have q1 := blk_cell hm.nb 0
      have q3 := blk_cell hm.gb 0
      have f0 := blk_free hm.lb 0
      simp only [List.getElem?_toArray, List.getElem?_cons_zero] at q0 q1 q3
      have hsz := lt_of_block hm.gb
      by_cases hlt : x < n
      · have hxS : Hid (chsTo n d f l (x + 1) = chsTo n d f l x ++ chsG n d (x + 1) (l ++ [x])) := chsTo_succ n d f l hfx
        have HG := hide hg
        have HROW := hide hm.row
        have hc1m := hm.mc
        clear hg hm
        have ca : ∀ o, (wr.alloc o).cell? ⟨B0 + 1, 0, none⟩ = some (.slice A1 m c1) := fun o => (World.cell?_alloc_lt _ _ _ (by show B0 + 1 < _; omega)).trans q0
        have hw1 : IntKind.i64.wrap ((x : Int) + 1) = ((x + 1 : Nat) : Int) := by rw [IntKind.wrap_i64]; omega
        have hw2 : wrap64 ((x : Int) + 1) = ((x + 1 : Nat) : Int) := by rw [show ((x : Int) + 1) = ((x + 1 : Nat) : Int) by omega]; exact wrapNat _ (by omega)
        go_wp2_with (
            (at_builtin; refine wpList_app1 (w0 := wr) _ _ 23 3 (.int .i64 0) 8 rfl rfl Try.underlying23 info_int rfl (B0 + 3) (.slice A1 m c1) m _ (.int .i64 (x : Int)) rfl rfl rfl ⟨_, rfl⟩ HROW.out rfl (by omega) (by omega) (by omega) ?_; intro g cg w1 hown1 hc1 hc2 hg1 hgl hgrow; have HLB := hide ((hgrow.block (B0 + 1) (by omega) (fun e => by have := (own_lt HROW.out _ e.symm).1; omega)).trans HG.out.mem.lb); have d1 := blk_cell HLB.out 0; have e1 := blk_free HLB.out 0; simp only [List.getElem?_toArray, List.getElem?_cons_zero] at d1; have hgc : ∀ v, (w1.setCell ⟨B0 + 1, 0, none⟩ v).cell? ⟨B0 + 2, 0, none⟩ = some (.func (.func 102) #[] #[.pointer (some ⟨B0 + 1, 0, none⟩), .pointer (some ⟨N0 + 1, 0, none⟩), .pointer (some ⟨B0, 0, none⟩), .pointer (some ⟨N0, 0, none⟩), .pointer (some ⟨B0 + 2, 0, none⟩)]) := fun v => blk_cell ((blk_far v (by omega)).trans ((hgrow.block (B0 + 2) (by omega) (fun e => by have := (own_lt HROW.out _ e.symm).1; omega)).trans HG.out.mem.gb)) 0; have HOW1 := hide hown1; have HGR := hide hgrow; have HG1 := hide hg1; clear hown1 hgrow hg1))
        clear hw1 hw2
        have HP2 := hide (ch_pushed HMO.out HG.out.mem HG.out.inv HG.out.ok HOW1.out hc1 HG1.out HGR.out)
        have hih := IH.out (x + 1) (l ++ [x]) (m + 1) s1 F1 (some ⟨g, 0, none⟩) cg (w1.setCell ⟨B0 + 1, 0, none⟩ (.slice (some ⟨g, 0, none⟩) (m + 1) cg)) (by omega) (by omega)
          (fun o ho => HSS.out o (by
            obtain ⟨t, ht⟩ := chsTo_split n d f l (x := x + 1) (by omega) (by omega)
            rw [ht, hxS.out]
            exact List.mem_append_left _ (List.mem_append_right _ ho))) HG.out.live HP2.out.1 HP2.out.2.1 HP2.out.2.2.1
        have hrs : Hid (runL step (chsTo n d f l (x + 1)) s = runL step (chsG n d (x + 1) (l ++ [x])) s1) := by
          show _ = _
          rw [hxS.out, runL_append, HG.out.run]; simp
        have hfr : ∀ (F3 : Nat → Prop) (w3 : World), (∀ q, F3 q → F1 q ∨ (w1.setCell ⟨B0 + 1, 0, none⟩ (.slice (some ⟨g, 0, none⟩) (m + 1) cg)).heap.size ≤ q) →
            Only (fun q => F1 q ∨ q = B0 + 1 ∨ (Value.slice (some ⟨g, 0, none⟩) (m + 1) cg).ownBlock = some q) (w1.setCell ⟨B0 + 1, 0, none⟩ (.slice (some ⟨g, 0, none⟩) (m + 1) cg)) w3 →
            (∀ q, F3 q → F q ∨ w.heap.size ≤ q) ∧ Only (fun q => F q ∨ q = B0 + 1 ∨ (Value.slice A m c).ownBlock = some q) w w3 := by
          intro F3 w3 h1 h2
          have hw1 := HG.out.only.size
          have hw2 := HP2.out.2.2.2.size
          refine ⟨fun q hq => ?_, (HG.out.only.trans HP2.out.2.2.2 (fun q hq h => ?_)).trans h2 (fun q hq h => ?_)⟩
          · rcases h1 q hq with h | h
            · exact HG.out.sub q h
            · exact .inr (by omega)
          · rcases h with h | h
            · exact .inr (.inl h)
            · rcases HG.out.own q h with h' | h'
              · exact .inr (.inr h')
              · omega
          · rcases h with h | h | h
            · rcases HG.out.sub q h with h' | h'
              · exact .inl h'
              · omega
            · exact .inr (.inl h)
            · have e9 : g = q := by simpa [Value.ownBlock] using h
              subst e9
              rcases HG1.out with h' | h'
              · rcases HG.out.own g h' with h'' | h''
                · exact .inr (.inr h'')
                · omega
              · omega
        have HFR := hide hfr
        clear hfr
        cases hb9 : (runL step (chsG n d (x + 1) (l ++ [x])) s1).1
        · have HB := hide hb9
          refine hih.mono ?_
          rintro e w3 ⟨F3, rfl, hi3, hsub3, hlt3, honly3, _⟩
          rw [hb9]
          clear hb9 hih
          have HI3 := hide hi3
          have HS3 := hide hsub3
          have HO3 := hide honly3
          have HL3 := hide hlt3
          clear hi3 hsub3 honly3 hlt3
          go_wp2
          go_ret
          obtain ⟨h1, h2⟩ := HFR.out F3 w3 HS3.out HO3.out
          have e1 : runL step (chsG n (d + 1) f l) s = runL step (chsG n d (x + 1) (l ++ [x])) s1 := by
            obtain ⟨t, ht⟩ := chsTo_split n d f l (x := x + 1) (by omega) (by omega)
            rw [ht, runL_stop step t (by rw [hrs.out]; exact HB.out), hrs.out]
          exact ⟨F3, by rw [e1, HB.out]; rfl, by rw [e1]; exact HI3.out, h1, HL3.out, h2, fun h => by rw [e1, HB.out] at h; cases h⟩
        · have HB := hide hb9
          refine hih.mono ?_
          rintro e w3 ⟨F3, rfl, hi3, hsub3, hlt3, honly3, hmem3⟩
          rw [hb9]
          obtain ⟨A3, c3, hm3, hok3, hown3⟩ := hmem3 hb9
          have HI3 := hide hi3
          have HS3 := hide hsub3
          have HO3 := hide honly3
          have HL3 := hide hlt3
          have HM3 := hide hm3
          have HK3 := hide hok3
          have HW3 := hide hown3
          have r0 := blk_cell hm3.lb 0
          have r1 := blk_free hm3.lb 0
          have hc3 := hm3.mc
          simp only [List.getElem?_toArray, List.getElem?_cons_zero] at r0
          clear hi3 hsub3 honly3 hlt3 hmem3 hm3 hok3 hown3 hb9 hih
          go_wp2
          go_roundw
          case rel =>
            obtain ⟨h1, h2⟩ := HFR.out F3 w3 HS3.out HO3.out
            obtain ⟨p1, p2, p3⟩ := ch_popped HMO.out HM3.out HI3.out HK3.out
            refine ⟨x + 1, F3, _, A3, c3, by omega, by omega, by go_num, p2, p1, p3, h1, h2.setCell (.inl (.inr (.inl rfl))) _, fun q hq => ?_, ?_, runL_live HNX.out _ _ HG.out.live HB.out⟩
            · have hob : (Value.slice A3 (m + 1) c3).ownBlock = some q := by
                rw [← hq]; cases A3 <;> rfl
              have hw1 := HG.out.only.size
              have hw2 := HP2.out.2.2.2.size
              rcases HW3.out q hob with h | h
              · have e9 : g = q := by simpa [Value.ownBlock] using h
                subst e9
                rcases HG1.out with h' | h'
                · exact HG.out.own g h'
                · exact .inr (by omega)
              · exact .inr (by omega)
            · rw [hrs.out, ← HB.out]
          case measure => simp [intOf] <;> omega
      · obtain rfl : n = x := by omega
        have HG := hide hg
        clear hg hm
        go_wp2
        go_ret
        have h := HG.out
        have e1 : runL step (chsG n (d + 1) f l) s = (true, s1) := h.run
        exact ⟨F1, by rw [e1]; rfl, by rw [e1]; exact h.inv, h.sub, h.ok.lt, h.only, fun _ => ⟨A1, c1, h.mem, h.ok, h.own⟩⟩

set_option maxHeartbeats 800000 in
/-- The function that choices hands back gives all choices. -/
theorem choices1_iter {w0 : World} (hn : n ≤ 60) (hk : kn ≤ 60) (hnb : w0.heap[N0]? = some (.cells #[.int .i64 n] 3 (0, 0))) (hkb : w0.heap[N0 + 1]? = some (.cells #[.int .i64 kn] 3 (0, 0))) :
    IterOk Try.prog 1 101 #[.pointer (some ⟨N0 + 1, 0, none⟩), .pointer (some ⟨N0, 0, none⟩)] (chsG n kn 0 []) (fun q => q = N0 ∨ q = N0 + 1) w0 := by
  intro l S σ live step Inv F s w hR1 hR2 hR3 hS hY hs hi hF hFR
  obtain ⟨W', hW⟩ : ∃ W, W = (((w.alloc (.cells #[.func (.yield l) #[] #[]] 95)).alloc (.cells #[.slice none 0 0] 23)).alloc
      (.cells #[.func (.func 102) #[] #[.pointer (some ⟨w.heap.size + 1, 0, none⟩), .pointer (some ⟨N0 + 1, 0, none⟩), .pointer (some ⟨w.heap.size, 0, none⟩), .pointer (some ⟨N0, 0, none⟩), .pointer (some ⟨w.heap.size + 2, 0, none⟩)]] 100)) := ⟨_, rfl⟩
  have hN0 := lt_of_block hkb
  have hsz' : W'.heap.size = w.heap.size + 3 := by subst hW; simp
  have hb : Below w.heap.size w W' := by
    subst hW
    exact (((Below.refl _ _).alloc (Nat.le_refl _) _).alloc (by simp) _).alloc (by simp <;> omega) _
  have hm : CMem W' l w.heap.size N0 n kn [] 0 none 0 := by
    refine ⟨rfl, ?_, ?_, ?_, ?_, ?_, by omega, World.ownsRow_nil _ _ _ _, Nat.le_refl _⟩
    · subst hW
      exact alloc_old _ _ _ (by simp <;> omega) (alloc_old _ _ _ (by simp) (alloc_new _ _ _ rfl))
    · subst hW
      exact alloc_old _ _ _ (by simp) (alloc_new _ _ _ (by simp))
    · subst hW
      exact alloc_new _ _ _ (by simp)
    · exact (hb.block N0 (by omega)).trans ((hR2 N0 (.inl rfl)).trans hnb)
    · exact (hb.block (N0 + 1) (by omega)).trans ((hR2 (N0 + 1) (.inr rfl)).trans hkb)
  have hi0 : Inv F s W' := hY.stab F s w W' hi (fun q hq => hb.block q (by rcases hq with h | h; exact hF q h; exact h)) hb.size hb.tape
  have hok : COk F W' w.heap.size N0 (.slice none 0 0) := ⟨fun q hq => by have := hF q hq; omega, fun q hq => .inl (hF q hq), fun q hq => ⟨fun e => hFR _ hq (.inl e), fun e => hFR _ hq (.inr e)⟩, fun q hq e => by cases e⟩
  have HG := hide (ch_any hY hk hn kn 0 [] 0 s F none 0 W' (by omega) (by omega) hS hs hm hi0 hok)
  have HB := hide hb
  have HS := hide hsz'
  have HW := hide hW
  have HF := hide hF
  clear hm hi0 hok hb hsz' hi hF hY hR1 hR2 hR3 hS hs hFR hnb hkb hW
  go_enter Try.func101, Try.ntmps101
  go_wp2_with fail
  have hg := HG.out
  rw [HW.out] at hg
  refine hg.mono ?_
  rw [← HW.out]
  rintro e w' ⟨F', rfl, h1, h2, h3, h4, _⟩
  have H1 := hide h1
  have H2 := hide h2
  have H3 := hide h3
  have H4 := hide h4
  clear h1 h2 h3 h4 hg
  go_wp2
  go_end0
  have hb := HB.out
  have hs := HS.out
  refine ⟨F', _, rfl, H1.out, fun q hq => ?_, H3.out, ⟨H4.out.os.trans hb.os, H4.out.tape.trans hb.tape, H4.out.output.trans hb.output, Nat.le_trans hb.size H4.out.size, fun q hq hn => ?_⟩⟩
  · rcases H2.out q hq with h | h
    · exact .inl h
    · exact .inr (by omega)
  · refine (H4.out.block q (by omega) (fun h => ?_)).trans (hb.block q hq)
    rcases h with h | h | h
    · exact hn h
    · omega
    · simp [Value.ownBlock] at h

set_option maxHeartbeats 400000 in
/-- choices hands back that function; n and k lie in two new blocks. -/
theorem choices_any (w : World) (n kn : Nat) (hn : n ≤ 60) (hk : kn ≤ 60) :
    Calls Try.prog 79 #[.int .i64 (n : Nat), .int .i64 (kn : Nat)] w fun e w' => e = .returned (.func (.func 101) #[] #[.pointer (some ⟨w.heap.size + 1, 0, none⟩), .pointer (some ⟨w.heap.size, 0, none⟩)]) ∧ w' = (w.alloc (.cells #[.int .i64 (n : Nat)] 3)).alloc (.cells #[.int .i64 (kn : Nat)] 3) ∧
      IterOk Try.prog 1 101 #[.pointer (some ⟨w.heap.size + 1, 0, none⟩), .pointer (some ⟨w.heap.size, 0, none⟩)] (chsG n kn 0 []) (fun q => q = w.heap.size ∨ q = w.heap.size + 1) w' := by
  have hit := choices1_iter (w0 := (w.alloc (.cells #[.int .i64 (n : Nat)] 3)).alloc (.cells #[.int .i64 (kn : Nat)] 3)) (N0 := w.heap.size) hn hk (alloc_old _ _ _ (by simp) (alloc_new _ _ _ rfl)) (alloc_new _ _ _ (by simp))
  have HI := hide hit
  clear hit
  go_enter Try.func79, Try.ntmps79
  go_wp2
  go_ret
  exact ⟨rfl, rfl, HI.out⟩
end
end Go.Proofs.Ytejijddfepgnkaa
