/-
  The trading rule as plain functions on numbers. Without any program.
-/
import Derived.Test.YtilnbiaabhdfgaaOrd
import Derived.Test.YtilnbiaabhdfgaaFix
namespace Go.Proofs.Ytilnbiaabhdfgaa
set_option linter.unusedVariables false
set_option linter.unusedSimpArgs false
open Go.RowKit

def up (l : List Nat) : List Int := l.map fun x : Nat => (x : Int)
def upp (W : List (List Nat)) : List (List Int) := W.map up
@[simp] theorem up_length (l : List Nat) : (up l).length = l.length := by simp [up]
@[simp] theorem upp_length (W : List (List Nat)) : (upp W).length = W.length := by simp [upp]
theorem up_getD (l : List Nat) (i : Nat) : (up l).getD i 0 = ((l.getD i 0 : Nat) : Int) := by
  simp only [up, List.getD_eq_getElem?_getD, List.getElem?_map]
  cases l[i]? <;> rfl
theorem upp_getD (W : List (List Nat)) (i : Nat) : (upp W).getD i [] = up (W.getD i []) := by
  simp only [upp, List.getD_eq_getElem?_getD, List.getElem?_map]
  cases W[i]? <;> rfl
theorem mem_up {l : List Nat} {x : Nat} : (x : Int) ∈ up l ↔ x ∈ l := by
  simp only [up, List.mem_map]
  constructor
  · rintro ⟨y, hy, e⟩; obtain rfl : y = x := by omega
    exact hy
  · intro h; exact ⟨x, h, rfl⟩

/-- A row of n ints comes back, in new memory. -/
def OneRow (n : Nat) (l : List Nat) (w : World) (e : Ending) (w' : World) : Prop :=
  ∃ O co, e = .returned (.slice O n co) ∧ IntsA w' w'.heap.size O (up l) ∧ Below w.heap.size w w' ∧ (∀ g, (Value.slice O n co).ownBlock = some g → w.heap.size ≤ g)
/-- Two rows of n ints come back, in new memory. -/
def TwoRows (n : Nat) (l l' : List Nat) (w : World) (e : Ending) (w' : World) : Prop :=
  ∃ O R co cr, e = .returned (.tuple #[.slice O n co, .slice R n cr]) ∧ IntsA w' w'.heap.size O (up l) ∧ IntsA w' w'.heap.size R (up l') ∧ Below w.heap.size w w' ∧
    (∀ g, (Value.slice O n co).ownBlock = some g → w.heap.size ≤ g) ∧ (∀ g, (Value.slice R n cr).ownBlock = some g → w.heap.size ≤ g)

/-- The first number of l in the set M. -/
def best (l : List Nat) (M : Nat) : Nat := (l.find? fun g => M.testBit g).getD 0
/-- The place of g in l. -/
def place (l : List Nat) (g : Nat) : Nat := (List.range l.length).find? (fun i => l.getD i 0 == g) |>.getD l.length
theorem idx_up_mem {l : List Nat} {g : Nat} (h : g ∈ l) : idx (up l) (g : Int) = (place l g : Int) := by
  unfold place
  have hin : ∀ i, i < l.length → ((up l).getD i 0 == (g : Int)) = (l.getD i 0 == g) := fun i _ => by
    rw [up_getD, Bool.eq_iff_iff]; simp; omega
  unfold idx
  rw [up_length, fidx_congr hin]
  cases hf : (List.range l.length).find? (fun i => l.getD i 0 == g) with
  | some i => unfold fidx; rw [hf]; rfl
  | none =>
    exfalso
    have := find_range_none.1 hf
    obtain ⟨i, hi, e⟩ := List.getElem_of_mem h
    have h2 := this i hi
    rw [List.getD_eq_getElem?_getD, List.getElem?_eq_getElem hi] at h2
    simp [e] at h2
theorem place_lt {l : List Nat} {g : Nat} (h : g ∈ l) : place l g < l.length ∧ l.getD (place l g) 0 = g := by
  unfold place
  cases hf : (List.range l.length).find? (fun i => l.getD i 0 == g) with
  | some i => obtain ⟨h1, h2, _⟩ := find_range_some.1 hf; exact ⟨h1, by simpa using h2⟩
  | none =>
    exfalso
    have := find_range_none.1 hf
    obtain ⟨i, hi, e⟩ := List.getElem_of_mem h
    have h2 := this i hi
    rw [List.getD_eq_getElem?_getD, List.getElem?_eq_getElem hi] at h2
    simp [e] at h2

theorem best_idx {l : List Nat} {M : Nat} (h : ∃ g ∈ l, M.testBit g = true) : ∃ k, k < l.length ∧ fidx l.length (fun i => M.testBit (l.getD i 0)) = (k : Int) ∧ l.getD k 0 = best l M := by
  induction l with
  | nil => obtain ⟨g, hg, _⟩ := h; cases hg
  | cons x l ih =>
    by_cases hx : M.testBit x = true
    · refine ⟨0, by simp, fidx_found (by simp) (by simpa using hx) (fun j hj => absurd hj (by omega)), ?_⟩
      simp [best, hx]
    · have hx' : M.testBit x = false := by simpa using hx
      obtain ⟨k, hk, e, hb⟩ := ih (by
        obtain ⟨g, hg, hm⟩ := h
        rcases List.mem_cons.1 hg with rfl | hg
        · exact absurd hm hx
        · exact ⟨g, hg, hm⟩)
      refine ⟨k + 1, by simp; omega, ?_, by simp [best, hx'] at hb ⊢; exact hb⟩
      rcases fidx_cases l.length (fun i => M.testBit (l.getD i 0)) with ⟨i, hi, e2, hp, hno⟩ | ⟨e2, _⟩
      · obtain rfl : i = k := by omega
        rw [fidx_found (i := i + 1) (by simp; omega) (by simpa using hp) (fun j hj => ?_)]
        cases j with
        | zero => simpa using hx'
        | succ j => simpa using hno j (by omega)
      · omega
theorem best_mem {l : List Nat} {M : Nat} (h : ∃ g ∈ l, M.testBit g = true) : best l M ∈ l ∧ M.testBit (best l M) = true := by
  unfold best
  cases hf : l.find? (fun g => M.testBit g) with
  | none => obtain ⟨g, hg, hm⟩ := h; exact absurd hm (by simpa using List.find?_eq_none.1 hf g hg)
  | some g => exact ⟨List.mem_of_find?_eq_some hf, by simpa using List.find?_some hf⟩

/-- Whom i points to: the person who has the best thing of M. -/
def nextF (W : List (List Nat)) (has : List Nat) (M i : Nat) : Nat := place has (best (W.getD i []) M)
def iter (f : Nat → Nat) : Nat → Nat → Nat
  | 0, x => x
  | k + 1, x => f (iter f k x)
/-- A way of pointing from i leads back in at most n steps. -/
def onCyc (f : Nat → Nat) (n i : Nat) : Bool := (List.range n).any fun k => iter f (k + 1) i == i
/-- The set of the numbers below n with a property, as bits. -/
def maskF : Nat → (Nat → Bool) → Nat
  | 0, _ => 0
  | n + 1, p => if p n then maskF n p ||| 2 ^ n else maskF n p
theorem testBit_maskF (n : Nat) (p : Nat → Bool) (i : Nat) : (maskF n p).testBit i = (decide (i < n) && p i) := by
  induction n with
  | zero => simp [maskF]
  | succ n ih =>
    unfold maskF
    by_cases e : i = n
    · subst e
      cases hp : p i
      · simp [ih]
      · simp [Nat.testBit_or, ih]
    · have h1 : decide (i < n + 1) = decide (i < n) := by
        rw [Bool.eq_iff_iff]; simp; omega
      rw [h1]
      cases hp : p n
      · simp [ih]
      · simp [Nat.testBit_or, ih, Nat.testBit_two_pow]; intro h; omega
theorem maskF_lt (n : Nat) (p : Nat → Bool) : maskF n p < 2 ^ n := by
  apply Nat.lt_pow_two_of_testBit
  intro i hi
  rw [testBit_maskF, decide_eq_false (by omega)]; rfl

/-- Who leaves in a round. -/
def goneF (W : List (List Nat)) (has : List Nat) (n left things : Nat) : Nat := maskF n fun i => left.testBit i && onCyc (nextF W has things) n i
/-- The things of those who leave. -/
def takenF (has : List Nat) (n gone : Nat) : Nat := maskF n fun g => (List.range n).any fun i => gone.testBit i && has.getD i 0 == g
/-- The trading rule: at most 'fuel' rounds more. -/
def ttc (W : List (List Nat)) (has : List Nat) (n : Nat) : Nat → Nat → Nat → Nat → (Nat → Nat) → (Nat → Nat) → (Nat → Nat) × (Nat → Nat)
  | 0, _, _, _, out, rounds => (out, rounds)
  | fuel + 1, left, things, r, out, rounds =>
    if left = 0 then (out, rounds) else
    let g := goneF W has n left things
    ttc W has n fuel (sdiff left g) (sdiff things (takenF has n g)) (r + 1) (fun i => if g.testBit i then best (W.getD i []) things else out i) (fun i => if g.testBit i then r else rounds i)
/-- What the trading rule gives. -/
def traded (W : List (List Nat)) (has : List Nat) : (Nat → Nat) × (Nat → Nat) :=
  ttc W has W.length W.length (2 ^ W.length - 1) (2 ^ W.length - 1) 0 (fun _ => 0) (fun _ => 0)
def listF (n : Nat) (f : Nat → Nat) : List Nat := (List.range n).map f
end Go.Proofs.Ytilnbiaabhdfgaa
