/-
  swap: orders: a function that is called for all orders, as long as it wants more. The function is a variable.
-/
import Derived.Test.YtilnbiaabhdfgaaInfo
import Derived.Test.YtilnbiaabhdfgaaBase
import Derived.Test.YtilnbiaabhdfgaaContains
import Derived.Laws.EntriesVeiled
namespace Go.Proofs.Ytilnbiaabhdfgaa
open Go.RowKit
set_option linter.unusedVariables false
set_option linter.unusedSimpArgs false

/-- Of what was there only the blocks of F may have turned. -/
structure Only (F : Nat → Prop) (w w' : World) : Prop where
  os : w'.os = w.os
  tape : w'.tape = w.tape
  output : w'.output = w.output
  size : w.heap.size ≤ w'.heap.size
  block : ∀ k, k < w.heap.size → ¬ F k → w'.heap[k]? = w.heap[k]?
theorem Only.refl (F : Nat → Prop) (w : World) : Only F w w := ⟨rfl, rfl, rfl, Nat.le_refl _, fun _ _ _ => rfl⟩
theorem Only.trans {F F' : Nat → Prop} {a b c : World} (h : Only F a b) (k : Only F' b c) (hF : ∀ q, q < a.heap.size → F' q → F q) : Only F a c :=
  ⟨k.os.trans h.os, k.tape.trans h.tape, k.output.trans h.output, Nat.le_trans h.size k.size, fun q hq hn => (k.block q (Nat.lt_of_lt_of_le hq h.size) (fun h' => hn (hF q hq h'))).trans (h.block q hq hn)⟩
theorem Only.of_below {F : Nat → Prop} {a b : World} (h : Below a.heap.size a b) : Only F a b := ⟨h.os, h.tape, h.output, h.size, fun q hq _ => h.block q hq⟩
theorem Only.of_grown {F : Nat → Prop} {a b : World} {row : Option Nat} (h : a.grownBy b row) (hr : ∀ k, row = some k → F k) : Only F a b := ⟨h.os, h.tape, h.output, h.size, fun q hq hn => h.block q hq (fun e => hn (hr q e.symm))⟩
theorem Only.setCell {F : Nat → Prop} {a b : World} (h : Only F a b) {g i : Nat} (hg : F g ∨ a.heap.size ≤ g) (u : Value) : Only F a (b.setCell ⟨g, i, none⟩ u) :=
  h.trans (F' := fun q => q = g) ⟨rfl, rfl, rfl, by simp [World.setCell], fun q _ hn => Below.heap_setCell b ⟨g, i, none⟩ u q hn⟩ (fun q hq e => by
    subst e
    rcases hg with h1 | h1
    · exact h1
    · omega)
theorem Only.below {F : Nat → Prop} {a b : World} {B : Nat} (h : Only F a b) (hB : B ≤ a.heap.size) (hF : ∀ k, F k → B ≤ k) : Below B a b :=
  ⟨h.os, h.tape, h.output, h.size, fun k hk => h.block k (by omega) (fun hf => by have := hF k hf; omega)⟩

/-- What is known of the function that is called: from state to state, over memory in the blocks F. -/
structure MoreOk (fid : FuncId) (cap : Array Value) (n B0 : Nat) {σ : Type} (step : σ → List Nat → Bool × σ) (Inv : (Nat → Prop) → σ → World → Prop) : Prop where
  goes : Goes Try.prog fid
  call : ∀ F s w A c l, Ord l n → Inv F s w → B0 ≤ w.heap.size → (∀ k, F k → k < w.heap.size) → IntsA w w.heap.size A (up l) → n ≤ c → (∀ k, F k → (Value.slice A n c).ownBlock ≠ some k) → Calls Try.prog fid (#[.slice A n c] ++ cap) w fun e w' =>
    ∃ F', e = .returned (.bool (step s l).1) ∧ Inv F' (step s l).2 w' ∧ (∀ k, F' k → F k ∨ w.heap.size ≤ k) ∧ (∀ k, F' k → k < w'.heap.size) ∧ Only F w w'
  stab : ∀ F s w w', Inv F s w → (∀ k, F k ∨ k < B0 → w'.heap[k]? = w.heap[k]?) → w.heap.size ≤ w'.heap.size → w'.tape = w.tape → Inv F s w'

/-- The blocks of the call's own: how many numbers (B0), the function (B0 + 1), the order as far as it has grown (B0 + 2), the growing function (B0 + 3), and the order's row. -/
structure GrMem (w : World) (fid : FuncId) (cap : Array Value) (n B0 : Nat) (l : List Nat) (m : Nat) (A : Option Addr) (c : Nat) : Prop where
  len : l.length = m
  nb : w.heap[B0]? = some (.cells #[.int .i64 n] 3 (0, 0))
  mb : w.heap[B0 + 1]? = some (.cells #[.func (.func fid) #[] cap] 62 (0, 0))
  lb : w.heap[B0 + 2]? = some (.cells #[.slice A m c] 23 (0, 0))
  gb : w.heap[B0 + 3]? = some (.cells #[.func (.func 85) #[] #[.pointer (some ⟨B0 + 2, 0, none⟩), .pointer (some ⟨B0, 0, none⟩), .pointer (some ⟨B0 + 1, 0, none⟩), .pointer (some ⟨B0 + 3, 0, none⟩)]] 28 (0, 0))
  row : w.ownsRow (B0 + 4) 3 1 (.slice A m c) m ((up l).map (Value.int .i64))
  mc : m ≤ c

/-- Whom the function writes to: none of the call's own blocks. -/
structure FOk (F : Nat → Prop) (w : World) (B0 : Nat) (v : Value) : Prop where
  lt : ∀ k, F k → k < w.heap.size
  off : ∀ k, F k → k < B0 ∨ B0 + 4 ≤ k
  row : ∀ k, F k → v.ownBlock ≠ some k

/-- What the growing function leaves. -/
def GrPost {σ : Type} (step : σ → List Nat → Bool × σ) (Inv : (Nat → Prop) → σ → World → Prop) (fid : FuncId) (cap : Array Value) (n B0 m d : Nat) (l : List Nat) (s : σ) (F : Nat → Prop) (A : Option Addr) (c : Nat) (w : World) (e : Ending) (w' : World) : Prop :=
  ∃ F', e = .returned (.bool (runL step (ordsF n d l) s).1) ∧ Inv F' (runL step (ordsF n d l) s).2 w' ∧ (∀ k, F' k → F k ∨ w.heap.size ≤ k) ∧ (∀ k, F' k → k < w'.heap.size) ∧
    Only (fun k => F k ∨ k = B0 + 2 ∨ (Value.slice A m c).ownBlock = some k) w w' ∧
    ((runL step (ordsF n d l) s).1 = true → ∃ A' c', GrMem w' fid cap n B0 l m A' c' ∧ FOk F' w' B0 (.slice A' m c') ∧ ∀ k, (Value.slice A' m c').ownBlock = some k → (Value.slice A m c).ownBlock = some k ∨ w.heap.size ≤ k)

section
variable {σ : Type} {step : σ → List Nat → Bool × σ} {Inv : (Nat → Prop) → σ → World → Prop} {fid : FuncId} {cap : Array Value} {n B0 : Nat}

theorem own_take {w : World} {base n m c : Nat} {e : TypeId} {A : Option Addr} {xs : List Value} (h : w.ownsRow base e 1 (.slice A n c) n xs) (hm : m ≤ n) : w.ownsRow base e 1 (.slice A m c) m (xs.take m) := by
  refine ⟨by have := h.1; simp [List.length_take]; omega, ?_⟩
  rcases h.2 with ⟨hv, h0⟩ | ⟨g, cap, cur, hv, hg, hh, hc, hmx, hs, ht⟩
  · injection hv with e1 e2 e3
    subst e1; subst e3
    have : m = 0 := by omega
    subst this
    exact .inl ⟨rfl, rfl⟩
  · injection hv with e1 e2 e3
    subst e1; subst e3
    refine .inr ⟨g, c, cur, rfl, hg, hh, by omega, hmx, hs, ?_⟩
    rw [← ht, List.take_take]
    congr 1
    omega

theorem own_same {w w' : World} {base k : Nat} {e : TypeId} {v : Value} {xs : List Value} (h : w.ownsRow base e 1 v k xs) (hk : ∀ g, v.ownBlock = some g → w'.heap[g]? = w.heap[g]?) : w'.ownsRow base e 1 v k xs := by
  refine ⟨h.1, ?_⟩
  rcases h.2 with h2 | ⟨g, cap, cur, hv, hg, hh, r⟩
  · exact .inl h2
  · exact .inr ⟨g, cap, cur, hv, hg, (hk g (by rw [hv]; rfl)).trans hh, r⟩

set_option maxHeartbeats 1600000 in
theorem grow_zero (hmo : MoreOk fid cap n B0 step Inv) (l : List Nat) (s : σ) (F : Nat → Prop) (A : Option Addr) (c : Nat) (w : World) (hp : Part l n) (hm : GrMem w fid cap n B0 l n A c) (hi : Inv F s w) (hF : FOk F w B0 (.slice A n c)) :
    Calls Try.prog 85 #[.pointer (some ⟨B0 + 2, 0, none⟩), .pointer (some ⟨B0, 0, none⟩), .pointer (some ⟨B0 + 1, 0, none⟩), .pointer (some ⟨B0 + 3, 0, none⟩)] w (GrPost step Inv fid cap n B0 n 0 l s F A c w) := by
  have hB0 : B0 ≤ w.heap.size := by have := lt_of_block hm.nb; omega
  have HC := hide (hmo.call F s w A c l (hp.ord hm.len) hi hB0 hF.lt (ints_of_own hm.row) hm.mc hF.row)
  have hgo := hmo.goes
  have c0 := blk_cell hm.lb 0
  have c1 := blk_cell hm.nb 0
  have c2 := blk_cell hm.mb 0
  simp only [List.getElem?_toArray, List.getElem?_cons_zero] at c0 c1 c2
  have hnn : ((n : Int) == (n : Int)) = true := by simp
  have HM := hide hm
  have HF := hide hF
  have HI := hide hi
  clear hm hF hi hmo
  go_enter Try.func85, Try.ntmps85
  go_wp2_with ((with_reducible show wpList _ _ _ (⟨some 12, _, _, _, _, _⟩ :: _) _ _); refine wpList_callv1 fid cap _ _ _ _ rfl rfl rfl rfl hgo ((HC.out).mono ?_); rintro e w' ⟨F', rfl, h1, h2, h3, h4⟩; refine ⟨_, rfl, ?_⟩; have H1 := hide h1; have H2 := hide h2; have H3 := hide h3; have H4 := hide h4; clear h1 h2 h3 h4)
  go_ret
  have h1 := H1.out
  have h2 := H2.out
  have h3 := H3.out
  have h4 := H4.out
  have hm := HM.out
  have hF := HF.out
  have e0 : runL step (ordsF n 0 l) s = step s l := runL_one step l s
  have keep : ∀ k, k < w.heap.size → ¬ F k → w'.heap[k]? = w.heap[k]? := h4.block
  have nof : ∀ k, B0 ≤ k → k < B0 + 4 → ¬ F k := fun k hk hk4 hf => by have := hF.off k hf; omega
  have own : ∀ k, (Value.slice A n c).ownBlock = some k → k < w.heap.size ∧ ¬ F k := fun k hk => ⟨(own_lt hm.row k hk).2, fun hf => hF.row k hf hk⟩
  refine ⟨F', by rw [e0]; rfl, by rw [e0]; exact h1, h2, h3, ?_, fun _ => ⟨A, c, ⟨hm.len, ?_, ?_, ?_, ?_, ?_, hm.mc⟩, ⟨h3, ?_, ?_⟩, fun k hk => .inl hk⟩⟩
  · exact (Only.refl _ w).trans (F' := F) h4 (fun q _ hq => .inl hq)
  · exact (keep _ (lt_of_block hm.nb) (nof _ (by omega) (by omega))).trans hm.nb
  · exact (keep _ (lt_of_block hm.mb) (nof _ (by omega) (by omega))).trans hm.mb
  · exact (keep _ (lt_of_block hm.lb) (nof _ (by omega) (by omega))).trans hm.lb
  · exact (keep _ (lt_of_block hm.gb) (nof _ (by omega) (by omega))).trans hm.gb
  · exact own_same hm.row fun g hg => keep g (own g hg).1 (own g hg).2
  · intro k hk
    rcases h2 k hk with h | h
    · exact hF.off k h
    · have := lt_of_block hm.gb; omega
  · intro k hk e
    obtain ⟨e1, e2⟩ := own k e
    rcases h2 k hk with h | h
    · exact e2 h
    · omega

/-- Behind the append of the next number and the store of the longer order. -/
theorem grow_pushed {w w1 : World} {l : List Nat} {m c1 g cg k : Nat} {s1 : σ} {F1 : Nat → Prop} {A1 : Option Addr} (hmo : MoreOk fid cap n B0 step Inv) (hm : GrMem w fid cap n B0 l m A1 c1) (hi : Inv F1 s1 w) (hF : FOk F1 w B0 (.slice A1 m c1))
    (hown : w1.ownsRow (B0 + 4) 3 1 (.slice (some ⟨g, 0, none⟩) (m + 1) cg) (m + 1) ((up l).map (Value.int .i64) ++ [Value.int .i64 (k : Int)])) (hc : m + 1 ≤ cg) (hg1 : (Value.slice A1 m c1).ownBlock = some g ∨ w.heap.size ≤ g)
    (hgr : w.grownBy w1 (Value.slice A1 m c1).ownBlock) :
    GrMem (w1.setCell ⟨B0 + 2, 0, none⟩ (.slice (some ⟨g, 0, none⟩) (m + 1) cg)) fid cap n B0 (l ++ [k]) (m + 1) (some ⟨g, 0, none⟩) cg ∧ Inv F1 s1 (w1.setCell ⟨B0 + 2, 0, none⟩ (.slice (some ⟨g, 0, none⟩) (m + 1) cg)) ∧
      FOk F1 (w1.setCell ⟨B0 + 2, 0, none⟩ (.slice (some ⟨g, 0, none⟩) (m + 1) cg)) B0 (.slice (some ⟨g, 0, none⟩) (m + 1) cg) ∧
      Only (fun q => q = B0 + 2 ∨ (Value.slice A1 m c1).ownBlock = some q) w (w1.setCell ⟨B0 + 2, 0, none⟩ (.slice (some ⟨g, 0, none⟩) (m + 1) cg)) := by
  have hgl := lt_of_block hm.gb
  have own : ∀ q, (Value.slice A1 m c1).ownBlock = some q → B0 + 4 ≤ q ∧ q < w.heap.size := fun q hq => own_lt hm.row q hq
  have hgB : B0 + 4 ≤ g := by
    rcases hg1 with h | h
    · exact (own g h).1
    · omega
  have keep : ∀ q, q < w.heap.size → (Value.slice A1 m c1).ownBlock ≠ some q → q ≠ B0 + 2 → (w1.setCell ⟨B0 + 2, 0, none⟩ (.slice (some ⟨g, 0, none⟩) (m + 1) cg)).heap[q]? = w.heap[q]? := fun q hq h1 h2 =>
    (blk_far _ h2).trans (hgr.block q hq (fun e => h1 e.symm))
  have low : ∀ q, q < B0 + 4 → (Value.slice A1 m c1).ownBlock ≠ some q := fun q hq e => by have := (own q e).1; omega
  have hsz : w.heap.size ≤ (w1.setCell ⟨B0 + 2, 0, none⟩ (.slice (some ⟨g, 0, none⟩) (m + 1) cg)).heap.size := by have := hgr.size; simpa [World.setCell] using this
  refine ⟨⟨by simp [hm.len], ?_, ?_, ?_, ?_, ?_, hc⟩, ?_, ⟨?_, hF.off, ?_⟩, ?_⟩
  · exact (keep _ (by omega) (low _ (by omega)) (by omega)).trans hm.nb
  · exact (keep _ (by omega) (low _ (by omega)) (by omega)).trans hm.mb
  · exact blk_set ((hgr.block _ (by omega) (fun e => low (B0 + 2) (by omega) e.symm)).trans hm.lb) 0 _
  · exact (keep _ (by omega) (low _ (by omega)) (by omega)).trans hm.gb
  · have e : (up (l ++ [k])).map (Value.int .i64) = (up l).map (Value.int .i64) ++ [Value.int .i64 (k : Int)] := by simp [up]
    rw [e]
    exact own_far hown (fun gg hgg => by have e9 : g = gg := (by simpa [Value.ownBlock] using hgg); omega) _
  · refine hmo.stab _ _ _ _ hi (fun q hq => ?_) hsz (by show w1.tape = _; exact hgr.tape)
    rcases hq with hq | hq
    · have h1 := hF.lt q hq
      have h2 := hF.off q hq
      have h3 := hF.row q hq
      exact keep q h1 h3 (by omega)
    · exact keep q (by omega) (low q (by omega)) (by omega)
  · intro q hq; have := hF.lt q hq; omega
  · intro q hq e
    have e9 : g = q := by simpa [Value.ownBlock] using e
    subst e9
    rcases hg1 with h | h
    · exact hF.row g hq h
    · have := hF.lt g hq; omega
  · exact (Only.of_grown hgr (fun q hq => .inr hq)).setCell (.inl (.inl rfl)) _

/-- Behind the growing function's own call, where it wants more: the order is as it was. -/
theorem grow_popped {w3 : World} {l : List Nat} {m c3 k : Nat} {s3 : σ} {F3 : Nat → Prop} {A3 : Option Addr} (hmo : MoreOk fid cap n B0 step Inv) (hm : GrMem w3 fid cap n B0 (l ++ [k]) (m + 1) A3 c3) (hi : Inv F3 s3 w3) (hF : FOk F3 w3 B0 (.slice A3 (m + 1) c3)) :
    GrMem (w3.setCell ⟨B0 + 2, 0, none⟩ (.slice A3 m c3)) fid cap n B0 l m A3 c3 ∧ Inv F3 s3 (w3.setCell ⟨B0 + 2, 0, none⟩ (.slice A3 m c3)) ∧ FOk F3 (w3.setCell ⟨B0 + 2, 0, none⟩ (.slice A3 m c3)) B0 (.slice A3 m c3) := by
  have hgl := lt_of_block hm.gb
  have hob : (Value.slice A3 (m + 1) c3).ownBlock = (Value.slice A3 m c3).ownBlock := by cases A3 <;> rfl
  have own : ∀ q, (Value.slice A3 m c3).ownBlock = some q → B0 + 4 ≤ q ∧ q < w3.heap.size := fun q hq => own_lt hm.row q (by rw [hob]; exact hq)
  have hll : l.length = m := by have := hm.len; simp at this; omega
  have keep : ∀ q, q ≠ B0 + 2 → (w3.setCell ⟨B0 + 2, 0, none⟩ (.slice A3 m c3)).heap[q]? = w3.heap[q]? := fun q h => blk_far _ h
  refine ⟨⟨hll, ?_, ?_, blk_set hm.lb 0 _, ?_, ?_, by have := hm.mc; omega⟩, ?_, ⟨?_, hF.off, ?_⟩⟩
  · exact (keep _ (by omega)).trans hm.nb
  · exact (keep _ (by omega)).trans hm.mb
  · exact (keep _ (by omega)).trans hm.gb
  · have h1 := own_take hm.row (m := m) (by omega)
    have e : ((up (l ++ [k])).map (Value.int .i64)).take m = (up l).map (Value.int .i64) := by
      simp only [up, List.map_append, List.map_map]
      rw [List.take_append_of_le_length (by simp; omega), List.take_of_length_le (by simp; omega)]
    rw [e] at h1
    exact own_far h1 (fun gg hgg => by have := (own gg hgg).1; omega) _
  · refine hmo.stab _ _ _ _ hi (fun q hq => keep q ?_) (by simp [World.setCell]) rfl
    rcases hq with hq | hq
    · have := hF.off q hq; omega
    · omega
  · intro q hq; have := hF.lt q hq; simpa [World.setCell] using this
  · intro q hq e; exact hF.row q hq (by rw [hob]; exact e)

/-- What holds at the head of the loop over the next number: k numbers have been tried. -/
structure GrLoop {σ : Type} (step : σ → List Nat → Bool × σ) (Inv : (Nat → Prop) → σ → World → Prop) (fid : FuncId) (cap : Array Value) (n B0 m d : Nat) (l : List Nat) (s : σ) (F : Nat → Prop) (A : Option Addr) (c : Nat) (w wr : World)
    (k : Nat) (F1 : Nat → Prop) (s1 : σ) (A1 : Option Addr) (c1 : Nat) : Prop where
  inv : Inv F1 s1 wr
  mem : GrMem wr fid cap n B0 l m A1 c1
  ok : FOk F1 wr B0 (.slice A1 m c1)
  sub : ∀ q, F1 q → F q ∨ w.heap.size ≤ q
  only : Only (fun q => F q ∨ q = B0 + 2 ∨ (Value.slice A m c).ownBlock = some q) w wr
  own : ∀ q, (Value.slice A1 m c1).ownBlock = some q → (Value.slice A m c).ownBlock = some q ∨ w.heap.size ≤ q
  run : runL step (ordsTo n d l k) s = (true, s1)

set_option maxRecDepth 100000 in
set_option maxHeartbeats 3200000 in
theorem grow_any (hmo : MoreOk fid cap n B0 step Inv) (hn : n ≤ 60) : ∀ (d : Nat) (l : List Nat) (m : Nat) (s : σ) (F : Nat → Prop) (A : Option Addr) (c : Nat) (w : World), m + d = n → Part l n → GrMem w fid cap n B0 l m A c → Inv F s w → FOk F w B0 (.slice A m c) →
    Calls Try.prog 85 #[.pointer (some ⟨B0 + 2, 0, none⟩), .pointer (some ⟨B0, 0, none⟩), .pointer (some ⟨B0 + 1, 0, none⟩), .pointer (some ⟨B0 + 3, 0, none⟩)] w (GrPost step Inv fid cap n B0 m d l s F A c w) := by
  intro d
  induction d with
  | zero =>
    intro l m s F A c w hmd hp hm hi hF
    obtain rfl : n = m := by omega
    exact grow_zero hmo l s F A c w hp hm hi hF
  | succ d ih =>
    intro l m s F A c w hmd hp hm hi hF
    have IH := hide ih
    clear ih
    have hmn : m < n := by omega
    have hne : ((m : Int) == (n : Int)) = false := by simp; omega
    have HPA := hide hp
    have g0 : GrLoop step Inv fid cap n B0 m d l s F A c w w 0 F s A c := ⟨hi, hm, hF, fun q hq => .inl hq, Only.refl _ w, fun q hq => .inl hq, rfl⟩
    have c0 := blk_cell hm.lb 0
    have c1 := blk_cell hm.nb 0
    simp only [List.getElem?_toArray, List.getElem?_cons_zero] at c0 c1
    clear hm hi hF hp
    go_enter Try.func85, Try.ntmps85
    go_wp2
    go_loopw [14] (fun i wr => ∃ (k : Nat) (F1 : Nat → Prop) (s1 : σ) (A1 : Option Addr) (c1 : Nat), k ≤ n ∧ i = .int .i64 k ∧ GrLoop step Inv fid cap n B0 m d l s F A c w wr k F1 s1 A1 c1) (fun i _ => n - (intOf i).toNat)
    case atStart => exact ⟨0, F, s, A, c, Nat.zero_le _, rfl, g0⟩
    case round =>
      clear c0 c1 g0
      obtain ⟨k, F1, s1, A1, c1, hk, rfl, hg⟩ := hrel
      have hm := hg.mem
      have q0 := blk_cell hm.lb 0
      have q1 := blk_cell hm.nb 0
      have q3 := blk_cell hm.gb 0
      have f0 := blk_free hm.lb 0
      simp only [List.getElem?_toArray, List.getElem?_cons_zero] at q0 q1 q3
      have hsz := lt_of_block hm.gb
      by_cases hlt : k < n
      · have HCN := hide (contains_any A1 m c1 wr.heap.size (up l) (k : Int) wr (by rw [up_length]; exact hm.len) (by omega) (ints_of_own hm.row))
        have HG := hide hg
        by_cases hkl : k ∈ l
        · rw [decide_eq_true (mem_up.2 hkl)] at HCN
          have HKL := hide hkl
          clear hg hm hkl
          go_wp2_with (go_at_call 28; refine (HCN.out).mono ?_; rintro e w' ⟨rfl, rfl⟩)
          go_roundw
          case rel =>
            refine ⟨k + 1, F1, s1, A1, c1, by omega, by go_num, HG.out.inv, HG.out.mem, HG.out.ok, HG.out.sub, HG.out.only, HG.out.own, ?_⟩
            rw [ordsTo_succ, if_pos HKL.out, List.append_nil]; exact HG.out.run
          case measure => simp [intOf] <;> omega
        · rw [decide_eq_false (fun h => hkl (mem_up.1 h))] at HCN
          have HKL : Hid (k ∉ l) := hkl
          have HROW := hide hm.row
          have hc1m := hm.mc
          clear hg hm hkl
          have ca : ∀ o, (wr.alloc o).cell? ⟨B0 + 2, 0, none⟩ = some (.slice A1 m c1) := fun o => (World.cell?_alloc_lt _ _ _ (by show B0 + 2 < _; omega)).trans q0
          go_wp2_with (first
            | (go_at_call 28; refine (HCN.out).mono ?_; rintro e w' ⟨rfl, rfl⟩)
            | (at_builtin; refine wpList_app1 (w0 := wr) _ _ 23 3 (.int .i64 0) 8 rfl rfl Try.underlying23 info_int rfl (B0 + 4) (.slice A1 m c1) m _ (.int .i64 (k : Int)) rfl rfl rfl ⟨_, rfl⟩ HROW.out rfl (by omega) (by omega) (by omega) ?_; intro g cg w1 hown1 hc1 hc2 hg1 hgl hgrow; have HLB := hide ((hgrow.block (B0 + 2) (by omega) (fun e => by have := (own_lt HROW.out _ e.symm).1; omega)).trans HG.out.mem.lb); have d1 := blk_cell HLB.out 0; have e1 := blk_free HLB.out 0; simp only [List.getElem?_toArray, List.getElem?_cons_zero] at d1; have hgc : ∀ v, (w1.setCell ⟨B0 + 2, 0, none⟩ v).cell? ⟨B0 + 3, 0, none⟩ = some (.func (.func 85) #[] #[.pointer (some ⟨B0 + 2, 0, none⟩), .pointer (some ⟨B0, 0, none⟩), .pointer (some ⟨B0 + 1, 0, none⟩), .pointer (some ⟨B0 + 3, 0, none⟩)]) := fun v => blk_cell ((blk_far v (by omega)).trans ((hgrow.block (B0 + 3) (by omega) (fun e => by have := (own_lt HROW.out _ e.symm).1; omega)).trans HG.out.mem.gb)) 0; have HOW1 := hide hown1; have HGR := hide hgrow; have HG1 := hide hg1; clear hown1 hgrow hg1))
          have HP2 := hide (grow_pushed hmo HG.out.mem HG.out.inv HG.out.ok HOW1.out hc1 HG1.out HGR.out)
          have hih := IH.out (l ++ [k]) (m + 1) s1 F1 (some ⟨g, 0, none⟩) cg (w1.setCell ⟨B0 + 2, 0, none⟩ (.slice (some ⟨g, 0, none⟩) (m + 1) cg)) (by omega) (HPA.out.snoc hlt HKL.out) HP2.out.1 HP2.out.2.1 HP2.out.2.2.1
          have hrs : Hid (runL step (ordsTo n d l (k + 1)) s = runL step (ordsF n d (l ++ [k])) s1) := by
            show _ = _
            rw [ordsTo_succ, if_neg HKL.out, runL_append, HG.out.run]; simp
          have hfr : ∀ (F3 : Nat → Prop) (w3 : World), (∀ q, F3 q → F1 q ∨ (w1.setCell ⟨B0 + 2, 0, none⟩ (.slice (some ⟨g, 0, none⟩) (m + 1) cg)).heap.size ≤ q) →
              Only (fun q => F1 q ∨ q = B0 + 2 ∨ (Value.slice (some ⟨g, 0, none⟩) (m + 1) cg).ownBlock = some q) (w1.setCell ⟨B0 + 2, 0, none⟩ (.slice (some ⟨g, 0, none⟩) (m + 1) cg)) w3 →
              (∀ q, F3 q → F q ∨ w.heap.size ≤ q) ∧ Only (fun q => F q ∨ q = B0 + 2 ∨ (Value.slice A m c).ownBlock = some q) w w3 := by
            intro F3 w3 h1 h2
            have hw1 := HG.out.only.size
            have hw2 := HP2.out.2.2.2.size
            refine ⟨fun q hq => ?_, (HG.out.only.trans HP2.out.2.2.2 (fun q hq h => ?_)).trans h2 (fun q hq h => ?_)⟩
            · rcases h1 q hq with h | h
              · exact HG.out.sub q h
              · exact .inr (by omega)
            · rcases h with h | h
              · exact .inr (.inl h)
              · rcases HG.out.own q h with h' | h'
                · exact .inr (.inr h')
                · omega
            · rcases h with h | h | h
              · rcases HG.out.sub q h with h' | h'
                · exact .inl h'
                · omega
              · exact .inr (.inl h)
              · have e9 : g = q := by simpa [Value.ownBlock] using h
                subst e9
                rcases HG1.out with h' | h'
                · rcases HG.out.own g h' with h'' | h''
                  · exact .inr (.inr h'')
                  · omega
                · omega
          have HFR := hide hfr
          clear hfr
          cases hb : (runL step (ordsF n d (l ++ [k])) s1).1
          · have HB := hide hb
            refine hih.mono ?_
            rintro e w3 ⟨F3, rfl, hi3, hsub3, hlt3, honly3, _⟩
            rw [hb]
            clear hb hih
            have HI3 := hide hi3
            have HS3 := hide hsub3
            have HO3 := hide honly3
            have HL3 := hide hlt3
            clear hi3 hsub3 honly3 hlt3
            go_wp2
            go_ret
            obtain ⟨h1, h2⟩ := HFR.out F3 w3 HS3.out HO3.out
            have e1 : runL step (ordsF n (d + 1) l) s = runL step (ordsF n d (l ++ [k])) s1 := by
              obtain ⟨t, ht⟩ := ordsTo_split n d l (k := k + 1) (m := n) (by omega)
              rw [← ordsTo_full, ht, runL_stop step t (by rw [hrs.out]; exact HB.out), hrs.out]
            exact ⟨F3, by rw [e1, HB.out]; rfl, by rw [e1]; exact HI3.out, h1, HL3.out, h2, fun h => by rw [e1, HB.out] at h; cases h⟩
          · have HB := hide hb
            refine hih.mono ?_
            rintro e w3 ⟨F3, rfl, hi3, hsub3, hlt3, honly3, hmem3⟩
            rw [hb]
            obtain ⟨A3, c3, hm3, hok3, hown3⟩ := hmem3 hb
            have HI3 := hide hi3
            have HS3 := hide hsub3
            have HO3 := hide honly3
            have HL3 := hide hlt3
            have HM3 := hide hm3
            have HK3 := hide hok3
            have HW3 := hide hown3
            have r0 := blk_cell hm3.lb 0
            have r1 := blk_free hm3.lb 0
            have hc3 := hm3.mc
            simp only [List.getElem?_toArray, List.getElem?_cons_zero] at r0
            clear hi3 hsub3 honly3 hlt3 hmem3 hm3 hok3 hown3 hb hih
            go_wp2
            go_roundw
            case rel =>
              obtain ⟨h1, h2⟩ := HFR.out F3 w3 HS3.out HO3.out
              obtain ⟨p1, p2, p3⟩ := grow_popped hmo HM3.out HI3.out HK3.out
              refine ⟨k + 1, F3, _, A3, c3, by omega, by go_num, p2, p1, p3, h1, h2.setCell (.inl (.inr (.inl rfl))) _, fun q hq => ?_, ?_⟩
              · have hob : (Value.slice A3 (m + 1) c3).ownBlock = some q := by
                  rw [← hq]; cases A3 <;> rfl
                have hw1 := HG.out.only.size
                have hw2 := HP2.out.2.2.2.size
                rcases HW3.out q hob with h | h
                · have e9 : g = q := by simpa [Value.ownBlock] using h
                  subst e9
                  rcases HG1.out with h' | h'
                  · exact HG.out.own g h'
                  · exact .inr (by omega)
                · exact .inr (by omega)
              · rw [hrs.out, ← HB.out]
            case measure => simp [intOf] <;> omega
      · obtain rfl : n = k := by omega
        have HG := hide hg
        clear hg hm
        go_wp2
        go_ret
        have h := HG.out
        have e1 : runL step (ordsF n (d + 1) l) s = (true, s1) := h.run
        exact ⟨F1, by rw [e1]; rfl, by rw [e1]; exact h.inv, h.sub, h.ok.lt, h.only, fun _ => ⟨A1, c1, h.mem, h.ok, h.own⟩⟩

set_option maxHeartbeats 400000 in
theorem orders_any {w : World} (hmo : MoreOk fid cap n w.heap.size step Inv) (hn : n ≤ 60) (s : σ) (F : Nat → Prop) (hi : Inv F s w) (hF : ∀ q, F q → q < w.heap.size) :
    Calls Try.prog 62 #[.int .i64 n, .func (.func fid) #[] cap] w fun e w' => ∃ F', e = .returned (.tuple #[]) ∧ Inv F' (runL step (ordsN n) s).2 w' ∧ (∀ q, F' q → F q ∨ w.heap.size ≤ q) ∧ (∀ q, F' q → q < w'.heap.size) ∧ Only F w w' := by
  obtain ⟨w0, hw0⟩ : ∃ w0, w0 = (((w.alloc (.cells #[.int .i64 n] 3)).alloc (.cells #[.func (.func fid) #[] cap] 62)).alloc (.cells #[.slice none 0 0] 23)).alloc
      (.cells #[.func (.func 85) #[] #[.pointer (some ⟨w.heap.size + 2, 0, none⟩), .pointer (some ⟨w.heap.size, 0, none⟩), .pointer (some ⟨w.heap.size + 1, 0, none⟩), .pointer (some ⟨w.heap.size + 3, 0, none⟩)]] 28) := ⟨_, rfl⟩
  have hs : w0.heap.size = w.heap.size + 4 := by subst hw0; simp
  have hb : Below w.heap.size w w0 := by
    subst hw0
    exact ((((Below.refl _ _).alloc (Nat.le_refl _) _).alloc (by simp) _).alloc (by simp <;> omega) _).alloc (by simp <;> omega) _
  have hm : GrMem w0 fid cap n w.heap.size [] 0 none 0 := by
    subst hw0
    refine ⟨rfl, ?_, ?_, ?_, ?_, World.ownsRow_nil _ _ _ _, Nat.le_refl _⟩
    · exact alloc_old _ _ _ (by simp <;> omega) (alloc_old _ _ _ (by simp <;> omega) (alloc_old _ _ _ (by simp) (alloc_new _ _ _ rfl)))
    · exact alloc_old _ _ _ (by simp <;> omega) (alloc_old _ _ _ (by simp) (alloc_new _ _ _ (by simp)))
    · exact alloc_old _ _ _ (by simp) (alloc_new _ _ _ (by simp))
    · exact alloc_new _ _ _ (by simp)
  have hi0 : Inv F s w0 := hmo.stab F s w w0 hi (fun q hq => hb.block q (by rcases hq with h | h <;> first | exact hF q h | exact h)) hb.size hb.tape
  have hok : FOk F w0 w.heap.size (.slice none 0 0) := ⟨fun q hq => by have := hF q hq; omega, fun q hq => .inl (hF q hq), fun q hq e => by cases e⟩
  have HG := hide (grow_any hmo hn n [] 0 s F none 0 w0 (by omega) (Part.nil_ n) hm hi0 hok)
  have HB := hide hb
  have HS := hide hs
  have HW := hide hw0
  have HF := hide hF
  clear hm hi0 hok hb hs hi hF hmo
  go_enter Try.func62, Try.ntmps62
  go_wp2_with fail
  have hg := HG.out
  rw [HW.out] at hg
  refine hg.mono ?_
  rw [← HW.out]
  rintro e w' ⟨F', rfl, h1, h2, h3, h4, _⟩
  have H1 := hide h1
  have H2 := hide h2
  have H3 := hide h3
  have H4 := hide h4
  clear h1 h2 h3 h4 hg
  go_wp2
  go_end0
  have hb := HB.out
  have hs := HS.out
  refine ⟨F', rfl, H1.out, fun q hq => ?_, H3.out, ⟨H4.out.os.trans hb.os, H4.out.tape.trans hb.tape, H4.out.output.trans hb.output, Nat.le_trans hb.size H4.out.size, fun q hq hn => ?_⟩⟩
  · rcases H2.out q hq with h | h
    · exact .inl h
    · exact .inr (by omega)
  · refine (H4.out.block q (by omega) (fun h => ?_)).trans (hb.block q hq)
    rcases h with h | h | h
    · exact hn h
    · omega
    · simp [Value.ownBlock] at h
end
end Go.Proofs.Ytilnbiaabhdfgaa
