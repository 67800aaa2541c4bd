/-
  Loops over a function (for x := range seq), where both the function that gives the elements and the loop's body write memory of their own: which blocks are whose is carried along. Without any program.
-/
import Derived.Test.YtejijddfepgnkaaBase
import Derived.RangeFuncNested
import Derived.RangeFuncLeaves
import Derived.OrdersIn
namespace Go.Proofs.Ytejijddfepgnkaa
open Go.RowKit
set_option linter.unusedVariables false
set_option linter.unusedSimpArgs false

/-- Of what was there only the blocks of F may have turned. -/
structure Only (F : Nat → Prop) (w w' : World) : Prop where
  os : w'.os = w.os
  tape : w'.tape = w.tape
  output : w'.output = w.output
  size : w.heap.size ≤ w'.heap.size
  block : ∀ k, k < w.heap.size → ¬ F k → w'.heap[k]? = w.heap[k]?
theorem Only.refl (F : Nat → Prop) (w : World) : Only F w w := ⟨rfl, rfl, rfl, Nat.le_refl _, fun _ _ _ => rfl⟩
theorem Only.trans {F F' : Nat → Prop} {a b c : World} (h : Only F a b) (k : Only F' b c) (hF : ∀ q, q < a.heap.size → F' q → F q) : Only F a c :=
  ⟨k.os.trans h.os, k.tape.trans h.tape, k.output.trans h.output, Nat.le_trans h.size k.size, fun q hq hn => (k.block q (Nat.lt_of_lt_of_le hq h.size) (fun h' => hn (hF q hq h'))).trans (h.block q hq hn)⟩
theorem Only.wide {F F' : Nat → Prop} {a b : World} (h : Only F a b) (hF : ∀ q, q < a.heap.size → F q → F' q) : Only F' a b :=
  ⟨h.os, h.tape, h.output, h.size, fun q hq hn => h.block q hq (fun h' => hn (hF q hq h'))⟩
theorem Only.of_below {F : Nat → Prop} {a b : World} (h : Below a.heap.size a b) : Only F a b := ⟨h.os, h.tape, h.output, h.size, fun q hq _ => h.block q hq⟩
theorem Only.of_grown {F : Nat → Prop} {a b : World} {row : Option Nat} (h : a.grownBy b row) (hr : ∀ k, row = some k → F k) : Only F a b := ⟨h.os, h.tape, h.output, h.size, fun q hq hn => h.block q hq (fun e => hn (hr q e.symm))⟩
theorem Only.setCell {F : Nat → Prop} {a b : World} (h : Only F a b) {g i : Nat} (hg : F g ∨ a.heap.size ≤ g) (u : Value) : Only F a (b.setCell ⟨g, i, none⟩ u) :=
  h.trans (F' := fun q => q = g) ⟨rfl, rfl, rfl, by simp [World.setCell], fun q _ hn => Below.heap_setCell b ⟨g, i, none⟩ u q hn⟩ (fun q hq e => by
    subst e
    rcases hg with h1 | h1
    · exact h1
    · omega)
theorem Only.putObj {F : Nat → Prop} {a b : World} (h : Only F a b) {g : Nat} (hg : F g ∨ a.heap.size ≤ g) (o : Obj) : Only F a (b.putObj g o) :=
  h.trans (F' := fun q => q = g) (Only.of_grown (grownBy_putObj' b g o) (fun k e => by cases e; rfl)) (fun q hq e => by
    subst e
    rcases hg with h1 | h1
    · exact h1
    · omega)
theorem Only.alloc {F : Nat → Prop} {a b : World} (h : Only F a b) (o : Obj) : Only F a (b.alloc o) :=
  h.trans (F' := fun _ => False) ⟨rfl, rfl, rfl, by simp, fun q hq _ => Below.heap_alloc _ _ _ hq⟩ (fun q hq e => e.elim)
theorem Only.below {F : Nat → Prop} {a b : World} {B : Nat} (h : Only F a b) (hB : B ≤ a.heap.size) (hF : ∀ k, F k → B ≤ k) : Below B a b :=
  ⟨h.os, h.tape, h.output, h.size, fun k hk => h.block k (by omega) (fun hf => by have := hF k hf; omega)⟩

/-- What is known of a call of yield, at loop l: from state to state, over memory in the blocks F; S: what elements there are; a state is live as long as no round has said 'no more'. -/
structure YOk (P : Program) (l m B0 : Nat) (S : List Nat → Prop) {σ : Type} (live : σ → Prop) (step : σ → List Nat → Bool × σ) (Inv : (Nat → Prop) → σ → World → Prop) : Prop where
  call : ∀ F s w A c x, S x → live s → Inv F s w → B0 ≤ w.heap.size → (∀ k, F k → k < w.heap.size) → IntsA w w.heap.size A (up x) → x.length ≤ c → (∀ k, (Value.slice A x.length c).ownBlock = some k → B0 ≤ k ∧ ¬ F k) →
    YieldAt Fence.wide m P l #[.slice A x.length c] w fun e w' =>
    ∃ F', e = .returned (.bool (step s x).1) ∧ Inv F' (step s x).2 w' ∧ (∀ k, F' k → F k ∨ (Value.slice A x.length c).ownBlock = some k ∨ w.heap.size ≤ k) ∧ (∀ k, F' k → k < w'.heap.size) ∧ Only F w w'
  stab : ∀ F s w w', Inv F s w → (∀ k, F k ∨ k < B0 → w'.heap[k]? = w.heap[k]?) → w.heap.size ≤ w'.heap.size → w'.tape = w.tape → Inv F s w'
  next : ∀ s x, live s → (step s x).1 = true → live (step s x).2

/-- The contract of a function that gives the elements xs, whatever the loop; R: blocks that it reads. -/
def IterOk (P : Program) (m gf : Nat) (lb : Array Value) (xs : List (List Nat)) (R : Nat → Prop) (w0 : World) : Prop :=
  ∀ (l : Nat) (S : List Nat → Prop) (σ : Type) (live : σ → Prop) (step : σ → List Nat → Bool × σ) (Inv : (Nat → Prop) → σ → World → Prop) (F : Nat → Prop) (s : σ) (w : World),
    (∀ k, R k → k < w0.heap.size) → (∀ k, R k → w.heap[k]? = w0.heap[k]?) → w0.heap.size ≤ w.heap.size → (∀ x ∈ xs, S x) → YOk P l m w.heap.size S live step Inv → live s → Inv F s w → (∀ k, F k → k < w.heap.size) → (∀ k, F k → ¬ R k) →
    Calls P gf (#[.func (.yield l) #[] #[]] ++ lb) w fun e w' => ∃ F' v, e = .returned v ∧ Inv F' (runL step xs s).2 w' ∧ (∀ k, F' k → F k ∨ w.heap.size ≤ k) ∧ (∀ k, F' k → k < w'.heap.size) ∧ Only F w w'

section
variable {σ : Type} (st : σ → List Nat → σ × Option Code)
/-- From state to state, till a round leaves by a jump. -/
def runJ : List (List Nat) → σ → σ × Option Code
  | [], s => (s, none)
  | x :: xs, s => if (st s x).2.isNone then runJ xs (st s x).1 else st s x
def stepJ (p : σ × Option Code) (x : List Nat) : Bool × (σ × Option Code) := ((st p.1 x).2.isNone, st p.1 x)
theorem runL_J (xs : List (List Nat)) : ∀ s : σ, (runL (stepJ st) xs (s, none)).2 = runJ st xs s := by
  induction xs with
  | nil => intro s; rfl
  | cons x xs ih =>
    intro s
    show (runL (stepJ st) (x :: xs) (s, none)).2 = (if (st s x).2.isNone then runJ st xs (st s x).1 else st s x)
    by_cases h : (st s x).2 = none
    · have h1 : (stepJ st (s, none) x).1 = true := by simp [stepJ, h]
      rw [runL, if_pos h1, if_pos (by rw [h]; rfl)]
      have e : (stepJ st (s, none) x).2 = ((st s x).1, none) := by simp only [stepJ]; rw [← h]
      rw [e]; exact ih _
    · have h1 : ¬ (stepJ st (s, none) x).1 = true := by simp [stepJ, h]
      rw [runL, if_neg h1, if_neg (by simp [h])]; rfl
end

/-- The loop's own record. -/
abbrev lrec (fn : FuncId) (tmps : Array Value) (ps : Array Tmp) (assign body : Code) (D : Nat) (s : LoopState) (p : Option Code) : Loop := { state := s, pending := p, fn, tmps, params := ps, assign, body, defers := D }
/-- How the body of a round may be left: (s, jump) what st says; W the world in which the body began. -/
def endOf {σ : Type} (I : (Nat → Prop) → σ → World → Prop) (F : Nat → Prop) (own : Option Nat) (s : σ) (W W' : World) : Prop :=
  ∃ F', I F' s W' ∧ (∀ k, F' k → F k ∨ own = some k ∨ W.heap.size ≤ k) ∧ (∀ k, F' k → k < W'.heap.size) ∧ Only F W W'
def roundEnd {σ : Type} (I : (Nat → Prop) → σ → World → Prop) (F : Nat → Prop) (own : Option Nat) (r : σ × Option Code) (W : World) : Exit → Act → World → Prop
  | .normal, _, W' => r.2 = none ∧ endOf I F own r.1 W W'
  | .ret, _, W' => r.2 = some .ret ∧ endOf I F own r.1 W W'
  | .exit id, _, W' => r.2 = some (.exit id) ∧ endOf I F own r.1 W W'
  | .goto t, _, W' => r.2 = some (.goto t) ∧ endOf I F own r.1 W W'
  | .panic _, _, _ => False
  | .outgrown, _, _ => False

/-- What a round may lean on. -/
structure RoundAt {σ : Type} (I : (Nat → Prop) → σ → World → Prop) (S : List Nat → Prop) (B0 l : Nat) (F : Nat → Prop) (s : σ) (x : List Nat) (A : Option Addr) (c : Nat) (W : World) : Prop where
  mem : S x
  inv : I F s W
  base : B0 ≤ W.heap.size
  lt : ∀ k, F k → k < W.heap.size
  ints : IntsA W W.heap.size A (up x)
  cap : x.length ≤ c
  off : ∀ k, (Value.slice A x.length c).ownBlock = some k → B0 ≤ k ∧ ¬ F k ∧ k ≠ l
  lo : B0 ≤ l
  lF : ¬ F l
  rcd : ∃ r, W.heap[l]? = some (.loop r)

variable {P : Program} {m : Nat}

/-- One round, out of the walks of its two codes: yield's contract. -/
theorem yok_of {σ : Type} {st : σ → List Nat → σ × Option Code} {I : (Nat → Prop) → σ → World → Prop} {S : List Nat → Prop} {B0 B1 l D : Nat} {fn : FuncId} {tmps : Array Value} {ps : Array Tmp} {assign body : Code} (G : Nat → Prop) (E : World → Prop)
    (hps : ps.size = 1) (hl0 : B0 ≤ l) (hl1 : l < B1) (hG : ∀ k, G k → B0 ≤ k ∧ k < B1) (hE : ∀ w w', E w → (∀ k, G k → w'.heap[k]? = w.heap[k]?) → E w') (hGl : ¬ G l) (hB : B0 ≤ B1)
    (hIs : ∀ F s W W', I F s W → (∀ k, F k ∨ k < B0 → W'.heap[k]? = W.heap[k]?) → W.heap.size ≤ W'.heap.size → W'.tape = W.tape → I F s W')
    (hround : ∀ (F : Nat → Prop) (s : σ) (x : List Nat) (A : Option Addr) (c : Nat) (W : World) (K : Act → World → Prop), RoundAt I S B0 l F s x A c W →
      (∀ a1 W1, Only (fun _ => False) W W1 → (∀ W2, RoundAt I S B0 l F s x A c W2 → Only (fun q => q = l) W1 W2 → W2.heap.size = W1.heap.size → body.wpIn (Fence.wide.inRound l) m P (roundEnd I F (Value.slice A x.length c).ownBlock (st s x) W2) a1 W2) → K a1 W1) →
      assign.wpIn (Fence.wide.inRound l) m P (Exit.then K (fun _ _ _ => False)) { tmps := (ps.zip #[.slice A x.length c]).foldl (fun t (p, v) => t.setIfInBounds p v) tmps, defers := [] } W) :
    YOk P l m B1 S (fun p : σ × Option Code => p.2 = none) (stepJ st) (fun F' p W => ∃ F, I F p.1 W ∧ (∀ k, F' k ↔ F k ∨ k = l) ∧ ¬ F l ∧ (∀ k, G k → ¬ F k) ∧ E W ∧ B1 ≤ W.heap.size ∧ (∀ k, F k → k < W.heap.size) ∧
      W.heap[l]? = some (.loop (lrec fn tmps ps assign body D (if p.2.isNone then .ready else .done) p.2))) := by
  refine ⟨?_, ?_, ?_⟩
  · rintro F' ⟨s, j⟩ w A c x hSx hj ⟨F, hI, hFF, hFl, hFG, hEw, hBw, hFlt, hrec⟩ hB1 hlt hints hc hoff
    obtain rfl : j = none := hj
    simp only [Option.isNone_none, if_true] at hrec
    have hy := run_yield (P := P) (args := #[.slice A x.length c]) hrec (by simp [hps])
    refine ⟨fn, _, assign, body, hy, roundIn_of_wpIn trivial (hround F s x A c w _ ⟨hSx, hI, by omega, hFlt, hints, hc, fun k hk => ?_, hl0, hFl, ⟨_, hrec⟩⟩ ?_)⟩
    · have := hoff k hk
      refine ⟨by omega, fun hf => this.2 ((hFF k).2 (.inl hf)), by omega⟩
    intro a1 W1 hW1 hbody
    have hll : l < w.heap.size := by omega
    have hrec1 : W1.heap[l]? = some (.loop (lrec fn tmps ps assign body D .ready none)) := (hW1.block l hll (fun h => h)).trans hrec
    refine ⟨_, run_beginRound hrec1 rfl, ?_⟩
    have hO2 : Only (fun q => q = l) W1 (W1.putObj l (.loop (lrec fn tmps ps assign body D .busy none))) := (Only.refl (fun q => q = l) _).putObj (.inl rfl) _
    have hs2 : (W1.putObj l (.loop (lrec fn tmps ps assign body D .busy none))).heap.size = W1.heap.size := by simp [World.putObj]
    have hO : Only (fun q => q = l) w (W1.putObj l (.loop (lrec fn tmps ps assign body D .busy none))) := (hW1.wide (F' := fun q => q = l) (fun _ _ h => h.elim)).trans hO2 (fun _ _ h => h)
    have hrec2 : (W1.putObj l (.loop (lrec fn tmps ps assign body D .busy none))).heap[l]? = some (.loop (lrec fn tmps ps assign body D .busy none)) := World.putObj_heap_same (by have := hW1.size; omega)
    have hR : RoundAt I S B0 l F s x A c (W1.putObj l (.loop (lrec fn tmps ps assign body D .busy none))) := by
      refine ⟨hSx, hIs F s w _ hI (fun k hk => ?_) hO.size hO.tape, by have := hO.size; omega, fun k hk => by have := hFlt k hk; have := hO.size; omega, ?_, hc, fun k hk => ?_, hl0, hFl, ⟨_, hrec2⟩⟩
      · rcases hk with hk | hk
        · exact hO.block k (hFlt k hk) (fun e => by subst e; exact hFl hk)
        · exact hO.block k (by omega) (by omega)
      · by_cases h0 : (up x).length = 0
        · exact fun i hi => absurd hi (by omega)
        · obtain ⟨b', o', y, e1, h2, _⟩ := hints.at_ (k := 0) (by omega)
          refine hints.keepA fun b o e => ?_
          rw [e1] at e
          injection e with e; injection e with e
          subst e
          have hb := hoff b' (by rw [e1]; rfl)
          exact ⟨by have := hO.size; omega, hO.block b' h2 (by omega)⟩
      · have := hoff k hk
        exact ⟨by omega, fun hf => this.2 ((hFF k).2 (.inl hf)), by omega⟩
    refine wpIn_mono (hbody _ hR hO2 hs2) ?_
    have fin : ∀ (jump : Option Code) (W3 : World), (st s x).2 = jump → endOf I F (Value.slice A x.length c).ownBlock (st s x).1 (W1.putObj l (.loop (lrec fn tmps ps assign body D .busy none))) W3 →
        ∃ v w', (Instr.endRound l jump).run P W3 = .ok v w' ∧ ∃ F'' : Nat → Prop, Ending.returned v = .returned (.bool (stepJ st (s, none) x).1) ∧ (∃ F, I F (stepJ st (s, none) x).2.1 w' ∧ (∀ k, F'' k ↔ F k ∨ k = l) ∧ ¬ F l ∧ (∀ k, G k → ¬ F k) ∧ E w' ∧ B1 ≤ w'.heap.size ∧ (∀ k, F k → k < w'.heap.size) ∧
          w'.heap[l]? = some (.loop (lrec fn tmps ps assign body D (if (stepJ st (s, none) x).2.2.isNone then .ready else .done) (stepJ st (s, none) x).2.2))) ∧
          (∀ k, F'' k → F' k ∨ (Value.slice A x.length c).ownBlock = some k ∨ w.heap.size ≤ k) ∧ (∀ k, F'' k → k < w'.heap.size) ∧ Only F' w w' := by
      intro jump W3 hj ⟨F2, hI2, hsub, hlt2, hO3⟩
      have hFl2 : ¬ F2 l := fun h => by
        rcases hsub l h with h1 | h1 | h1
        · exact hFl h1
        · exact absurd (hoff l h1).1 (by omega)
        · have := hO.size; omega
      have hsz : w.heap.size ≤ W3.heap.size := Nat.le_trans hO.size hO3.size
      have hrec3 : W3.heap[l]? = some (.loop (lrec fn tmps ps assign body D .busy none)) := (hO3.block l (by have := hO.size; omega) hFl).trans hrec2
      refine ⟨_, _, run_endRound jump hrec3, fun k => F2 k ∨ k = l, ?_, ⟨F2, ?_, fun k => Iff.rfl, hFl2, ?_, ?_, ?_, ?_, ?_⟩, ?_, ?_, ?_⟩
      · simp [stepJ, hj]
      · refine hIs _ _ W3 _ hI2 (fun k hk => World.putObj_heap_other (fun e => ?_)) (by simp [World.putObj]) rfl
        subst e
        rcases hk with hk | hk
        · exact hFl2 hk
        · omega
      · intro k hk hf
        have h1 := hG k hk
        rcases hsub k hf with h2 | h2 | h2
        · exact hFG k hk h2
        · have := (hoff k h2).1; omega
        · have := hO.size; omega
      · refine hE w _ hEw (fun k hk => ?_)
        have h1 := hG k hk
        have hne : k ≠ l := fun e => hGl (e ▸ hk)
        exact (World.putObj_heap_other hne).trans ((hO3.block k (by have := hO.size; omega) (hFG k hk)).trans (hO.block k (by omega) hne))
      · simp [World.putObj]; omega
      · intro k hk; have := hlt2 k hk; simpa [World.putObj] using this
      · have : (st s x).2 = (stepJ st (s, none) x).2.2 := rfl
        rw [← this, hj]
        exact World.putObj_heap_same (by omega)
      · intro k hk
        rcases hk with hk | hk
        · rcases hsub k hk with h1 | h1 | h1
          · exact .inl ((hFF k).2 (.inl h1))
          · exact .inr (.inl h1)
          · exact .inr (.inr (by have := hO.size; omega))
        · exact .inl ((hFF k).2 (.inr hk))
      · intro k hk
        rcases hk with hk | hk
        · have := hlt2 k hk; simpa [World.putObj] using this
        · subst hk; simp [World.putObj]; omega
      · refine Only.putObj ?_ (.inl ((hFF l).2 (.inr rfl))) _
        refine (hO.wide (F' := F') (fun q _ e => (hFF q).2 (.inr e))).trans hO3 (fun q _ hf => (hFF q).2 (.inl hf))
    rintro e a3 W3 hp
    cases e with
    | normal => exact fin none W3 hp.1 hp.2
    | ret => exact fin (some .ret) W3 hp.1 hp.2
    | exit id => exact fin (some (.exit id)) W3 hp.1 hp.2
    | goto t => exact fin (some (.goto t)) W3 hp.1 hp.2
    | panic ch => exact hp.elim
    | outgrown => exact hp.elim
  · rintro F' ⟨s, j⟩ w w' ⟨F, hI, hFF, hFl, hFG, hEw, hBw, hFlt, hrec⟩ hk hs ht
    refine ⟨F, hIs F s w w' hI (fun k h => hk k ?_) hs ht, hFF, hFl, hFG, hE w w' hEw (fun k h => hk k (.inr (hG k h).2)), by omega, fun k h => by have := hFlt k h; omega, (hk l (.inr hl1)).trans hrec⟩
    rcases h with h | h
    · exact .inl ((hFF k).2 (.inl h))
    · exact .inr (by omega)
  · rintro ⟨s, j⟩ x _ h
    simpa [stepJ] using h

/-- The call of the function that gives the elements, at a record that has been laid. -/
theorem loop_call {σ : Type} {st : σ → List Nat → σ × Option Code} {I : (Nat → Prop) → σ → World → Prop} {S : List Nat → Prop} {B0 l D gf : Nat} {lb : Array Value} {xs : List (List Nat)} {R : Nat → Prop} {w0 w : World}
    {fn : FuncId} {tmps : Array Value} {ps : Array Tmp} {assign body : Code} (G : Nat → Prop) (E : World → Prop) {F : Nat → Prop} {s : σ} (hseq : IterOk P m gf lb xs R w0)
    (hps : ps.size = 1) (hl0 : B0 ≤ l) (hl1 : l < w.heap.size) (hG : ∀ k, G k → B0 ≤ k ∧ k < w.heap.size) (hE : ∀ w w', E w → (∀ k, G k → w'.heap[k]? = w.heap[k]?) → E w') (hGl : ¬ G l)
    (hS : ∀ x ∈ xs, S x) (hR1 : ∀ k, R k → k < w0.heap.size) (hR2 : ∀ k, R k → w.heap[k]? = w0.heap[k]?) (hR3 : w0.heap.size ≤ B0) (hB : B0 ≤ w.heap.size)
    (hIs : ∀ F s W W', I F s W → (∀ k, F k ∨ k < B0 → W'.heap[k]? = W.heap[k]?) → W.heap.size ≤ W'.heap.size → W'.tape = W.tape → I F s W')
    (h0 : I F s w) (hF : ∀ k, F k → k < B0) (hFR : ∀ k, F k → ¬ R k) (hE0 : E w) (hrec : w.heap[l]? = some (.loop (lrec fn tmps ps assign body D .ready none)))
    (hround : ∀ (F : Nat → Prop) (s : σ) (x : List Nat) (A : Option Addr) (c : Nat) (W : World) (K : Act → World → Prop), RoundAt I S B0 l F s x A c W →
      (∀ a1 W1, Only (fun _ => False) W W1 → (∀ W2, RoundAt I S B0 l F s x A c W2 → Only (fun q => q = l) W1 W2 → W2.heap.size = W1.heap.size → body.wpIn (Fence.wide.inRound l) m P (roundEnd I F (Value.slice A x.length c).ownBlock (st s x) W2) a1 W2) → K a1 W1) →
      assign.wpIn (Fence.wide.inRound l) m P (Exit.then K (fun _ _ _ => False)) { tmps := (ps.zip #[.slice A x.length c]).foldl (fun t (p, v) => t.setIfInBounds p v) tmps, defers := [] } W) :
    Calls P gf (#[.func (.yield l) #[] #[]] ++ lb) w fun e w' => ∃ v, e = .returned v ∧ ∃ F', I F' (runJ st xs s).1 (w'.putObj l (.loop { lrec fn tmps ps assign body D (if (runJ st xs s).2.isNone then .ready else .done) (runJ st xs s).2 with state := .exhausted })) ∧
      (∀ k, F' k → F k ∨ w.heap.size ≤ k) ∧ (∀ k, F' k → k < w'.heap.size) ∧ Only (fun k => F k ∨ k = l) w w' ∧ E w' ∧
      (Instr.endLoop l).run P w' = .ok (runJ st xs s).2 (w'.putObj l (.loop { lrec fn tmps ps assign body D (if (runJ st xs s).2.isNone then .ready else .done) (runJ st xs s).2 with state := .exhausted })) := by
  have hY := yok_of (P := P) (m := m) (st := st) (I := I) (S := S) (B0 := B0) (B1 := w.heap.size) (l := l) (D := D) (fn := fn) (tmps := tmps) (ps := ps) (assign := assign) (body := body) G E hps hl0 hl1 hG hE hGl hB hIs hround
  refine (hseq l S _ _ _ _ (fun k => F k ∨ k = l) (s, none) w hR1 hR2 (by omega) hS hY rfl ⟨F, h0, fun k => Iff.rfl, fun h => by have := hF l h; omega, fun k h hf => by have := hF k hf; have := (hG k h).1; omega, hE0, Nat.le_refl _, fun k h => by have := hF k h; omega, hrec⟩ (fun k h => ?_) (fun k h hr => ?_)).mono ?_
  · rcases h with h | h
    · have := hF k h; omega
    · omega
  · rcases h with h | h
    · exact hFR k h hr
    · have := hR1 k hr; omega
  · rintro e w' ⟨F1, v, rfl, hinv, hsub, hlt, hO⟩
    rw [runL_J] at hinv
    obtain ⟨F2, hI2, hFF, hFl, hFG, hEw, hBw, hFlt, hrec2⟩ := hinv
    have hll : l < w'.heap.size := by omega
    refine ⟨v, rfl, F2, hIs _ _ w' _ hI2 (fun k hk => World.putObj_heap_other (fun e => ?_)) (by simp [World.putObj]) rfl, fun k hk => ?_, hFlt, hO, hEw, ?_⟩
    · subst e
      rcases hk with hk | hk
      · exact hFl hk
      · omega
    · rcases hsub k ((hFF k).2 (.inl hk)) with h | h
      · rcases h with h | h
        · exact .inl h
        · subst h; exact absurd hk hFl
      · exact .inr h
    · exact run_endLoop hrec2 (by cases (runJ st xs s).2 <;> simp)

/-- The statement 'for x := range seq' of a function's own body. -/
theorem wp_loop_over {σ : Type} {g : Operand} {ps : Array Tmp} {assign body : Code} {Q : Exit → Act → World → Prop} {a : Act} {w w0 : World} {gf : Nat} {lb : Array Value} {xs : List (List Nat)} {R : Nat → Prop}
    (st : σ → List Nat → σ × Option Code) (I : (Nat → Prop) → σ → World → Prop) (S : List Nat → Prop) (F : Nat → Prop) (s : σ)
    (hps : ps.size = 1) (hg : a.eval g = .func (.func gf) #[] lb) (hgo : Goes P gf) (hseq : IterOk P m gf lb xs R w0)
    (hS : ∀ x ∈ xs, S x) (hR1 : ∀ k, R k → k < w0.heap.size) (hR2 : ∀ k, R k → w.heap[k]? = w0.heap[k]?) (hR3 : w0.heap.size ≤ w.heap.size)
    (hIs : ∀ F s W W', I F s W → (∀ k, F k ∨ k < w.heap.size → W'.heap[k]? = W.heap[k]?) → W.heap.size ≤ W'.heap.size → W'.tape = W.tape → I F s W')
    (h0 : I F s w) (hF : ∀ k, F k → k < w.heap.size) (hFR : ∀ k, F k → ¬ R k)
    (hround : ∀ (l : Nat) (F : Nat → Prop) (s : σ) (x : List Nat) (A : Option Addr) (c : Nat) (W : World) (K : Act → World → Prop), RoundAt I S w.heap.size l F s x A c W →
      (∀ a1 W1, Only (fun _ => False) W W1 → (∀ W2, RoundAt I S w.heap.size l F s x A c W2 → Only (fun q => q = l) W1 W2 → W2.heap.size = W1.heap.size → body.wpIn (Fence.wide.inRound l) m P (roundEnd I F (Value.slice A x.length c).ownBlock (st s x) W2) a1 W2) → K a1 W1) →
      assign.wpIn (Fence.wide.inRound l) m P (Exit.then K (fun _ _ _ => False)) { tmps := (ps.zip #[.slice A x.length c]).foldl (fun t (p, v) => t.setIfInBounds p v) a.tmps, defers := [] } W)
    (hend : ∀ (D : Nat) (F' : Nat → Prop) (W' : World), I F' (runJ st xs s).1 W' → (∀ k, F' k → F k ∨ w.heap.size ≤ k) → (∀ k, F' k → k < W'.heap.size) → Only F w W' → w.heap.size ≤ D → ¬ F' D → W'.heap[D]? = some (.deferred (some [])) →
      (match (runJ st xs s).2 with
       | none => Q .normal { a with defers := { target := .collected D, args := #[] } :: a.defers } W'
       | some c => c.wp P Q { a with defers := { target := .collected D, args := #[] } :: a.defers } W')) :
    (Code.rangeFunc g ps assign body).wp P Q a w := by
  refine (wpIn_wide (n := 0)).1 (wpIn_rangeFunc ?_)
  intro fn hfn
  obtain ⟨W1, hW1⟩ : ∃ W1, (w.alloc (.deferred (some []))).alloc (.loop (lrec fn a.tmps ps assign body w.heap.size .ready none)) = W1 := ⟨_, rfl⟩
  have hL1 : W1.heap[w.heap.size + 1]? = some (.loop (lrec fn a.tmps ps assign body w.heap.size .ready none)) := by
    rw [← hW1]; exact alloc_new _ _ _ (by simp)
  have hK1 : W1.heap[w.heap.size]? = some (.deferred (some [])) := by
    rw [← hW1]; exact alloc_old _ _ _ (by simp) (alloc_new _ _ _ rfl)
  have hO1 : Only (fun _ => False) w W1 := by rw [← hW1]; exact ((Only.refl _ _).alloc _).alloc _
  have hs1 : W1.heap.size = w.heap.size + 2 := by rw [← hW1]; simp
  refine ⟨w.heap.size + 1, [{ target := .collected w.heap.size, args := #[] }], W1, { target := .fn (.func gf) lb, args := #[.func (.yield (w.heap.size + 1)) #[] #[]] }, W1, gf,
    #[.func (.yield (w.heap.size + 1)) #[] #[]] ++ lb, W1, ?_, ?_, fun _ _ => trivial, ?_, fun h => (by cases h), ?_⟩
  · rw [← hW1]; exact run_enterLoop_outer _ _ _ _ _
  · simp only [resolve, hg]
    simp [go_sem]
  · simp [invoke, go_sem, hgo _ _]
  · refine callsIn_wide.2 ((loop_call (P := P) (m := m) (st := st) (I := I) (S := S) (B0 := w.heap.size) (l := w.heap.size + 1) (D := w.heap.size) (w := W1) (fun k => k = w.heap.size) (fun W => W.heap[w.heap.size]? = some (.deferred (some []))) (F := F) (s := s) hseq hps (by omega) (by omega) (fun k e => by subst e; omega)
      (fun X Y h hk => (hk _ rfl).trans h) (by omega) hS hR1 (fun k h => (hO1.block k (by have := hR1 k h; omega) (fun e => e)).trans (hR2 k h)) hR3 (by omega) hIs (hIs _ _ _ _ h0 (fun k h => hO1.block k (by rcases h with h | h; exact hF k h; exact h) (fun e => e)) hO1.size hO1.tape) hF hFR hK1 hL1 (hround _)).mono ?_)
    rintro e w' ⟨v, rfl, F', hI', hsub, hlt, hO, hE, hrun⟩
    have hll : w.heap.size + 1 < w'.heap.size := by have := hO.size; omega
    have hD : (w'.putObj (w.heap.size + 1) (.loop { lrec fn a.tmps ps assign body w.heap.size (if (runJ st xs s).2.isNone then .ready else .done) (runJ st xs s).2 with state := .exhausted })).heap[w.heap.size]? = some (.deferred (some [])) := (World.putObj_heap_other (by omega)).trans hE
    have hnD : ¬ F' w.heap.size := fun h => by
      rcases hsub _ h with h1 | h1
      · have := hF _ h1; omega
      · omega
    have hO2 : Only F w (w'.putObj (w.heap.size + 1) (.loop { lrec fn a.tmps ps assign body w.heap.size (if (runJ st xs s).2.isNone then .ready else .done) (runJ st xs s).2 with state := .exhausted })) := by
      refine Only.putObj ?_ (.inr (by omega)) _
      exact (hO1.wide (F' := F) (fun _ _ h => h.elim)).trans hO (fun q hq h => by
        rcases h with h | h
        · exact h
        · omega)
    have hfin := hend w.heap.size F' _ hI' (fun k hk => by
      rcases hsub k hk with h | h
      · exact .inl h
      · exact .inr (by omega)) (fun k hk => by have := hlt k hk; simpa [World.putObj] using this) hO2 (Nat.le_refl _) hnD hD
    refine ⟨_, _, hrun, ?_⟩
    cases hj : (runJ st xs s).2 with
    | none => rw [hj] at hfin; exact hfin
    | some c => rw [hj] at hfin; exact wpIn_wide.2 hfin

/-- The same within a round of another such loop. -/
theorem wpIn_loop_over {σ : Type} {g : Operand} {ps : Array Tmp} {assign body : Code} {Q : Exit → Act → World → Prop} {a : Act} {w w0 : World} {gf : Nat} {lb : Array Value} {xs : List (List Nat)} {R : Nat → Prop} {l₀ n : Nat}
    (st : σ → List Nat → σ × Option Code) (I : (Nat → Prop) → σ → World → Prop) (S : List Nat → Prop) (F : Nat → Prop) (s : σ) (hl₀ : ∃ r, w.heap[l₀]? = some (.loop r))
    (hps : ps.size = 1) (hg : a.eval g = .func (.func gf) #[] lb) (hgo : Goes P gf) (hseq : IterOk P m gf lb xs R w0)
    (hS : ∀ x ∈ xs, S x) (hR1 : ∀ k, R k → k < w0.heap.size) (hR2 : ∀ k, R k → w.heap[k]? = w0.heap[k]?) (hR3 : w0.heap.size ≤ w.heap.size)
    (hIs : ∀ F s W W', I F s W → (∀ k, F k ∨ k < w.heap.size → W'.heap[k]? = W.heap[k]?) → W.heap.size ≤ W'.heap.size → W'.tape = W.tape → I F s W')
    (h0 : I F s w) (hF : ∀ k, F k → k < w.heap.size) (hFR : ∀ k, F k → ¬ R k)
    (hround : ∀ (l : Nat) (F : Nat → Prop) (s : σ) (x : List Nat) (A : Option Addr) (c : Nat) (W : World) (K : Act → World → Prop), RoundAt I S w.heap.size l F s x A c W →
      (∀ a1 W1, Only (fun _ => False) W W1 → (∀ W2, RoundAt I S w.heap.size l F s x A c W2 → Only (fun q => q = l) W1 W2 → W2.heap.size = W1.heap.size → body.wpIn (Fence.wide.inRound l) m P (roundEnd I F (Value.slice A x.length c).ownBlock (st s x) W2) a1 W2) → K a1 W1) →
      assign.wpIn (Fence.wide.inRound l) m P (Exit.then K (fun _ _ _ => False)) { tmps := (ps.zip #[.slice A x.length c]).foldl (fun t (p, v) => t.setIfInBounds p v) a.tmps, defers := [] } W)
    (hend : ∀ (F' : Nat → Prop) (W' : World), I F' (runJ st xs s).1 W' → (∀ k, F' k → F k ∨ w.heap.size ≤ k) → (∀ k, F' k → k < W'.heap.size) → Only F w W' →
      (match (runJ st xs s).2 with
       | none => Q .normal a W'
       | some c => c.wpIn (Fence.wide.inRound l₀) n P Q a W')) :
    (Code.rangeFunc g ps assign body).wpIn (Fence.wide.inRound l₀) n P Q a w := by
  refine wpIn_rangeFunc ?_
  intro fn hfn
  obtain ⟨r₀, hr₀⟩ := hl₀
  obtain ⟨W1, hW1⟩ : ∃ W1, w.alloc (.loop (lrec fn a.tmps ps assign body r₀.defers .ready none)) = W1 := ⟨_, rfl⟩
  have hL1 : W1.heap[w.heap.size]? = some (.loop (lrec fn a.tmps ps assign body r₀.defers .ready none)) := by
    rw [← hW1]; exact alloc_new _ _ _ rfl
  have hO1 : Only (fun _ => False) w W1 := by rw [← hW1]; exact (Only.refl _ _).alloc _
  have hs1 : W1.heap.size = w.heap.size + 1 := by rw [← hW1]; simp
  refine ⟨w.heap.size, [], W1, { target := .fn (.func gf) lb, args := #[.func (.yield w.heap.size) #[] #[]] }, W1, gf,
    #[.func (.yield w.heap.size) #[] #[]] ++ lb, W1, ?_, ?_, fun _ _ => trivial, ?_, fun h => (by cases h), ?_⟩
  · rw [← hW1]; exact run_enterLoop_inner hr₀ _ _ _ _ _
  · simp only [resolve, hg]
    simp [go_sem]
  · simp [invoke, go_sem, hgo _ _]
  · refine CallsIn.inRound l₀ (callsIn_wide.2 ((loop_call (P := P) (m := m) (st := st) (I := I) (S := S) (B0 := w.heap.size) (l := w.heap.size) (D := r₀.defers) (w := W1) (fun _ => False) (fun _ => True) (F := F) (s := s) hseq hps (by omega) (by omega) (fun k e => e.elim)
      (fun X Y h hk => trivial) (fun h => h) hS hR1 (fun k h => (hO1.block k (by have := hR1 k h; omega) (fun e => e)).trans (hR2 k h)) hR3 (by omega) hIs (hIs _ _ _ _ h0 (fun k h => hO1.block k (by rcases h with h | h; exact hF k h; exact h) (fun e => e)) hO1.size hO1.tape) hF hFR trivial hL1 (hround _)).mono ?_))
    rintro e w' ⟨v, rfl, F', hI', hsub, hlt, hO, hE, hrun⟩
    have hll : w.heap.size < w'.heap.size := by have := hO.size; omega
    have hO2 : Only F w (w'.putObj w.heap.size (.loop { lrec fn a.tmps ps assign body r₀.defers (if (runJ st xs s).2.isNone then .ready else .done) (runJ st xs s).2 with state := .exhausted })) := by
      refine Only.putObj ?_ (.inr (by omega)) _
      exact (hO1.wide (F' := F) (fun _ _ h => h.elim)).trans hO (fun q hq h => by
        rcases h with h | h
        · exact h
        · omega)
    have hfin := hend F' _ hI' (fun k hk => by
      rcases hsub k hk with h | h
      · exact .inl h
      · exact .inr (by omega)) (fun k hk => by have := hlt k hk; simpa [World.putObj] using this) hO2
    refine ⟨_, _, hrun, ?_⟩
    cases hj : (runJ st xs s).2 with
    | none => rw [hj] at hfin; exact hfin
    | some c => rw [hj] at hfin; exact hfin

/-- At the function's return: the marks of its loops. -/
theorem leaves_mark {fn : Func} {tmps : Array Value} {R : Ending → World → Prop} {D : Nat} {ds : List Deferred} {w : World} (hD : w.heap[D]? = some (.deferred (some [])))
    (h : LeavesInM Fence.wide 0 P fn tmps R ds .returning (w.putObj D (.deferred none))) : LeavesInM Fence.wide 0 P fn tmps R ({ target := .collected D, args := #[] } :: ds) .returning w :=
  ⟨by simp, .inl ⟨_, _, rfl, run_takeDeferred hD, h⟩⟩
/-- A function's contract from its body's walk, where loops over functions leave their marks. -/
theorem calls_of_marks {f : FuncId} {fn : Func} {c : Code} {args : Array Value} {w : World} {R : Ending → World → Prop} (hf : P.funcs[f]? = some fn) (hb : fn.body = some c)
    (h : c.wp P (bodyPostM Fence.wide 0 P fn R) { tmps := args ++ Array.replicate (fn.ntmps - args.size) undef, defers := [] } w) : Calls P f args w R :=
  callsIn_wide.1 (callsIn_of_wp_marks hf hb trivial (wpIn_wide.2 h) rfl)

/-! ### a region that draws its order, in a round: by the plain laws -/
theorem oper_round {l n : Nat} {o : Oper} {a : Act} {w : World} {K : Act → World → Prop} {Q : Exit → Act → World → Prop} (hnd : ∀ c, o.op ≠ .defer c) (hL : ¬ LetsOut Q) (h : o.wp P a w K Q) : o.wpIn (Fence.wide.inRound l) n P a w K Q := by
  refine ⟨fun f _ => trivial, ?_⟩
  rw [show (Fence.wide.inRound l).round = some l from rfl, Oper.semAt_some l a.eval o hnd]
  unfold Oper.wp at h
  generalize (execOp a.eval o).run P w = r at h ⊢
  unfold Oper.upon at h
  unfold Oper.uponIn
  split at h
  · exact h
  · exact h
  · exact h
  · refine ⟨fun h9 => (by cases h9), CallsIn.inRound l (callsIn_wide.2 (h.mono ?_))⟩
    intro e w9 h9
    cases e <;> exact h9
  · exact ⟨fun h9 => (by cases h9), fun c cs _ => let ⟨v, w9, h1, h2⟩ := h c cs; ⟨v, w9, h1, stepsIn_wide.2 h2⟩⟩
  · exact h
  · exact h.elim
theorem ops_round {l n : Nat} {ops : Array Oper} {Q : Exit → Act → World → Prop} (hnd : ∀ (i : Nat) (o : Oper), ops[i]? = some o → ∀ c, o.op ≠ .defer c) (hL : ¬ LetsOut Q) : ∀ (is : List Nat) (a : Act) (w : World), wpOps P ops Q is a w → wpOpsIn (Fence.wide.inRound l) n P ops Q is a w
  | [], a, w, h => h
  | i :: is, a, w, h => by
    rw [wpOps] at h
    rw [wpOpsIn]
    cases ho : ops[i]? with
    | none => rw [ho] at h; exact ops_round hnd hL is a w h
    | some o =>
      rw [ho] at h
      simp only at h ⊢
      by_cases hw : Region.wanted o (yielded ops a.tmps) = true
      · rw [if_pos hw] at h ⊢
        rcases h with h | h
        · exact Oper.wpIn_mono (fun a w h => ops_round hnd hL is a w h) (oper_round (hnd i o ho) hL h)
        · exact absurd h.2 hL
      · rw [if_neg hw] at h ⊢
        exact ⟨fun _ _ => trivial, ops_round hnd hL is _ w h⟩
def notDefer (o : Oper) : Bool := match o.op with
  | .defer _ => false
  | _ => true
theorem nodefer {ops : Array Oper} (h : ops.toList.all notDefer = true) : ∀ (i : Nat) (o : Oper), ops[i]? = some o → ∀ c, o.op ≠ .defer c := fun i o ho c e => by
  have h1 := List.all_eq_true.1 h o (by
    obtain ⟨hi, rfl⟩ := Array.getElem?_eq_some_iff.1 ho
    exact Array.getElem_mem_toList hi)
  rw [notDefer, e] at h1
  cases h1
theorem wpIn_region_round {l n id : Nat} {ops : Array Oper} {Q : Exit → Act → World → Prop} {a : Act} {w : World} (hm : P.follows .mixedOrders = true) (hnd : ops.toList.all notDefer = true) (hL : ¬ LetsOut Q)
    (h : wpAny P .any ops Q ops.size (Array.replicate ops.size false) a { w with drawn := w.drawn + 1 }) : (Code.region id ops true).wpIn (Fence.wide.inRound l) n P Q a w :=
  wpIn_region_draw fun t => by
    simp only [Region.schedule, hm, Bool.true_or, if_true]
    exact ops_round (nodefer hnd) hL _ _ _ (wpAny_sound ops.size t _ a _ h)
theorem wpIn_region_below {l n id : Nat} {Q : Exit → Act → World → Prop} {a : Act} {w : World} {ops : List Oper} (hm : P.follows .mixedOrders = true) (hB : Region.lexB .any ops.toArray = true)
    (hnd : ops.all notDefer = true) (hL : ¬ LetsOut Q)
    (h : wpQuiet P ops.toArray (fun w' => Below w.heap.size w w') (fun a' => ∀ w', Below w.heap.size w w' → Q .normal a' w') ops a) : (Code.region id ops.toArray true).wpIn (Fence.wide.inRound l) n P Q a w := by
  simp only [Region.lexB, Bool.and_eq_true] at hB
  refine wpIn_region_round hm (by simpa using hnd) hL (wpAny_of_quiet (Q := fun a' => ∀ w', Below w.heap.size w w' → Q .normal a' w') (fun _ w' hw' h => h w' hw') _ _ _ _ ((Below.refl _ _).drew) ?_)
  have := wpAnyQ_lex (C := fun w' => Below w.heap.size w w') (md := .any) hB.1 ops.toArray.toList 0 (Array.replicate ops.toArray.size false) a (by simp) (by simpa using hB.2) (by simpa using h)
  simpa using this
end Go.Proofs.Ytejijddfepgnkaa
