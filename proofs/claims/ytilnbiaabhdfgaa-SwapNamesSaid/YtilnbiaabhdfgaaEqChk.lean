/-
  Orders that keep a relation, and permutations whose cycles keep it: as many of both, for up to five. Counted out by the kernel.
-/
import Derived.Test.YtilnbiaabhdfgaaBase
namespace Go.Proofs.Ytilnbiaabhdfgaa
open Go.RowKit
set_option linter.unusedVariables false
set_option linter.unusedSimpArgs false

/-- Row k of the packed relation: bits 8k and on. -/
noncomputable def rowR (R k : Nat) : Nat := Nat.land (Nat.shiftRight R (Nat.mul 8 k)) 255
noncomputable def linGo (R : Nat) (e : List Nat) : Nat → Bool := List.rec (fun _ => true) (fun x _ ih done => bif Nat.beq (Nat.land (rowR R x) done) (rowR R x) then ih (Nat.lor done (Nat.shiftLeft 1 x)) else false) e
noncomputable def cntR {α : Type} (p : α → Bool) (l : List α) : Nat := List.rec 0 (fun x _ ih => bif p x then Nat.succ ih else ih) l
noncomputable def rowsOf (R : Nat) (b : List Nat) : Nat := List.rec 0 (fun k _ ih => Nat.lor (rowR R k) ih) b
noncomputable def maskL (b : List Nat) : Nat := List.rec 0 (fun k _ ih => Nat.lor (Nat.shiftLeft 1 k) ih) b
/-- What is left of L: the blocks of which something before them is left. -/
noncomputable def peel (R L : Nat) (bs : List (List Nat)) : Nat := List.rec 0 (fun b _ ih => bif Nat.beq (Nat.land (rowsOf R b) L) 0 then ih else Nat.lor (maskL b) ih) bs
noncomputable def peels (R : Nat) (bs : List (List Nat)) (d : Nat) : Nat → Bool := Nat.rec (fun L => Nat.beq L 0) (fun _ ih L => (fun L' => bif Nat.beq L' L then Nat.beq L 0 else ih L') (peel R L bs)) d
noncomputable def indep (R : Nat) (bs : List (List Nat)) : Bool := List.rec true (fun b _ ih => bif Nat.beq (Nat.land (rowsOf R b) (maskL b)) 0 then ih else false) bs
noncomputable def compR (n R : Nat) (bs : List (List Nat)) : Bool := bif indep R bs then peels R bs n (Nat.pred (Nat.pow 2 n)) else false
noncomputable def allTo (p : Nat → Bool) (n : Nat) : Bool := Nat.rec true (fun k ih => bif p k then ih else false) n
theorem allTo_of {p : Nat → Bool} {n : Nat} (h : allTo p n = true) : ∀ k, k < n → p k = true := by
  induction n with
  | zero => intro k hk; omega
  | succ n ih =>
    have e : allTo p (n + 1) = bif p n then allTo p n else false := rfl
    rw [e] at h
    cases hp : p n with
    | false => rw [hp] at h; cases h
    | true =>
      rw [hp] at h
      intro k hk
      by_cases e2 : k = n
      · rw [e2]; exact hp
      · exact ih h k (by omega)
def perms1 : List (List Nat) := [[0]]
def blocks1 : List (List (List Nat)) := [[[0]]]
def perms2 : List (List Nat) := [[0, 1], [1, 0]]
def blocks2 : List (List (List Nat)) := [[[0], [1]], [[0, 1]]]
def perms3 : List (List Nat) := [[0, 1, 2], [0, 2, 1], [1, 0, 2], [1, 2, 0], [2, 0, 1], [2, 1, 0]]
def blocks3 : List (List (List Nat)) := [[[0], [1], [2]], [[0], [1, 2]], [[0, 1], [2]], [[0, 1, 2]], [[0, 2, 1]], [[0, 2], [1]]]
def perms4 : List (List Nat) := [[0, 1, 2, 3], [0, 1, 3, 2], [0, 2, 1, 3], [0, 2, 3, 1], [0, 3, 1, 2], [0, 3, 2, 1], [1, 0, 2, 3], [1, 0, 3, 2], [1, 2, 0, 3], [1, 2, 3, 0], [1, 3, 0, 2], [1, 3, 2, 0], [2, 0, 1, 3], [2, 0, 3, 1], [2, 1, 0, 3], [2, 1, 3, 0], [2, 3, 0, 1], [2, 3, 1, 0], [3, 0, 1, 2], [3, 0, 2, 1], [3, 1, 0, 2], [3, 1, 2, 0], [3, 2, 0, 1], [3, 2, 1, 0]]
def blocks4 : List (List (List Nat)) := [[[0], [1], [2], [3]], [[0], [1], [2, 3]], [[0], [1, 2], [3]], [[0], [1, 2, 3]], [[0], [1, 3, 2]], [[0], [1, 3], [2]], [[0, 1], [2], [3]], [[0, 1], [2, 3]], [[0, 1, 2], [3]], [[0, 1, 2, 3]], [[0, 1, 3, 2]], [[0, 1, 3], [2]], [[0, 2, 1], [3]], [[0, 2, 3, 1]], [[0, 2], [1], [3]], [[0, 2, 3], [1]], [[0, 2], [1, 3]], [[0, 2, 1, 3]], [[0, 3, 2, 1]], [[0, 3, 1], [2]], [[0, 3, 2], [1]], [[0, 3], [1], [2]], [[0, 3, 1, 2]], [[0, 3], [1, 2]]]
def perms5 : List (List Nat) := [[0, 1, 2, 3, 4], [0, 1, 2, 4, 3], [0, 1, 3, 2, 4], [0, 1, 3, 4, 2], [0, 1, 4, 2, 3], [0, 1, 4, 3, 2], [0, 2, 1, 3, 4], [0, 2, 1, 4, 3], [0, 2, 3, 1, 4], [0, 2, 3, 4, 1], [0, 2, 4, 1, 3], [0, 2, 4, 3, 1], [0, 3, 1, 2, 4], [0, 3, 1, 4, 2], [0, 3, 2, 1, 4], [0, 3, 2, 4, 1], [0, 3, 4, 1, 2], [0, 3, 4, 2, 1], [0, 4, 1, 2, 3], [0, 4, 1, 3, 2], [0, 4, 2, 1, 3], [0, 4, 2, 3, 1], [0, 4, 3, 1, 2], [0, 4, 3, 2, 1], [1, 0, 2, 3, 4], [1, 0, 2, 4, 3], [1, 0, 3, 2, 4], [1, 0, 3, 4, 2], [1, 0, 4, 2, 3], [1, 0, 4, 3, 2], [1, 2, 0, 3, 4], [1, 2, 0, 4, 3], [1, 2, 3, 0, 4], [1, 2, 3, 4, 0], [1, 2, 4, 0, 3], [1, 2, 4, 3, 0], [1, 3, 0, 2, 4], [1, 3, 0, 4, 2], [1, 3, 2, 0, 4], [1, 3, 2, 4, 0], [1, 3, 4, 0, 2], [1, 3, 4, 2, 0], [1, 4, 0, 2, 3], [1, 4, 0, 3, 2], [1, 4, 2, 0, 3], [1, 4, 2, 3, 0], [1, 4, 3, 0, 2], [1, 4, 3, 2, 0], [2, 0, 1, 3, 4], [2, 0, 1, 4, 3], [2, 0, 3, 1, 4], [2, 0, 3, 4, 1], [2, 0, 4, 1, 3], [2, 0, 4, 3, 1], [2, 1, 0, 3, 4], [2, 1, 0, 4, 3], [2, 1, 3, 0, 4], [2, 1, 3, 4, 0], [2, 1, 4, 0, 3], [2, 1, 4, 3, 0], [2, 3, 0, 1, 4], [2, 3, 0, 4, 1], [2, 3, 1, 0, 4], [2, 3, 1, 4, 0], [2, 3, 4, 0, 1], [2, 3, 4, 1, 0], [2, 4, 0, 1, 3], [2, 4, 0, 3, 1], [2, 4, 1, 0, 3], [2, 4, 1, 3, 0], [2, 4, 3, 0, 1], [2, 4, 3, 1, 0], [3, 0, 1, 2, 4], [3, 0, 1, 4, 2], [3, 0, 2, 1, 4], [3, 0, 2, 4, 1], [3, 0, 4, 1, 2], [3, 0, 4, 2, 1], [3, 1, 0, 2, 4], [3, 1, 0, 4, 2], [3, 1, 2, 0, 4], [3, 1, 2, 4, 0], [3, 1, 4, 0, 2], [3, 1, 4, 2, 0], [3, 2, 0, 1, 4], [3, 2, 0, 4, 1], [3, 2, 1, 0, 4], [3, 2, 1, 4, 0], [3, 2, 4, 0, 1], [3, 2, 4, 1, 0], [3, 4, 0, 1, 2], [3, 4, 0, 2, 1], [3, 4, 1, 0, 2], [3, 4, 1, 2, 0], [3, 4, 2, 0, 1], [3, 4, 2, 1, 0], [4, 0, 1, 2, 3], [4, 0, 1, 3, 2], [4, 0, 2, 1, 3], [4, 0, 2, 3, 1], [4, 0, 3, 1, 2], [4, 0, 3, 2, 1], [4, 1, 0, 2, 3], [4, 1, 0, 3, 2], [4, 1, 2, 0, 3], [4, 1, 2, 3, 0], [4, 1, 3, 0, 2], [4, 1, 3, 2, 0], [4, 2, 0, 1, 3], [4, 2, 0, 3, 1], [4, 2, 1, 0, 3], [4, 2, 1, 3, 0], [4, 2, 3, 0, 1], [4, 2, 3, 1, 0], [4, 3, 0, 1, 2], [4, 3, 0, 2, 1], [4, 3, 1, 0, 2], [4, 3, 1, 2, 0], [4, 3, 2, 0, 1], [4, 3, 2, 1, 0]]
def blocks5 : List (List (List Nat)) := [[[0], [1], [2], [3], [4]], [[0], [1], [2], [3, 4]], [[0], [1], [2, 3], [4]], [[0], [1], [2, 3, 4]], [[0], [1], [2, 4, 3]], [[0], [1], [2, 4], [3]], [[0], [1, 2], [3], [4]], [[0], [1, 2], [3, 4]], [[0], [1, 2, 3], [4]], [[0], [1, 2, 3, 4]], [[0], [1, 2, 4, 3]], [[0], [1, 2, 4], [3]], [[0], [1, 3, 2], [4]], [[0], [1, 3, 4, 2]], [[0], [1, 3], [2], [4]], [[0], [1, 3, 4], [2]], [[0], [1, 3], [2, 4]], [[0], [1, 3, 2, 4]], [[0], [1, 4, 3, 2]], [[0], [1, 4, 2], [3]], [[0], [1, 4, 3], [2]], [[0], [1, 4], [2], [3]], [[0], [1, 4, 2, 3]], [[0], [1, 4], [2, 3]], [[0, 1], [2], [3], [4]], [[0, 1], [2], [3, 4]], [[0, 1], [2, 3], [4]], [[0, 1], [2, 3, 4]], [[0, 1], [2, 4, 3]], [[0, 1], [2, 4], [3]], [[0, 1, 2], [3], [4]], [[0, 1, 2], [3, 4]], [[0, 1, 2, 3], [4]], [[0, 1, 2, 3, 4]], [[0, 1, 2, 4, 3]], [[0, 1, 2, 4], [3]], [[0, 1, 3, 2], [4]], [[0, 1, 3, 4, 2]], [[0, 1, 3], [2], [4]], [[0, 1, 3, 4], [2]], [[0, 1, 3], [2, 4]], [[0, 1, 3, 2, 4]], [[0, 1, 4, 3, 2]], [[0, 1, 4, 2], [3]], [[0, 1, 4, 3], [2]], [[0, 1, 4], [2], [3]], [[0, 1, 4, 2, 3]], [[0, 1, 4], [2, 3]], [[0, 2, 1], [3], [4]], [[0, 2, 1], [3, 4]], [[0, 2, 3, 1], [4]], [[0, 2, 3, 4, 1]], [[0, 2, 4, 3, 1]], [[0, 2, 4, 1], [3]], [[0, 2], [1], [3], [4]], [[0, 2], [1], [3, 4]], [[0, 2, 3], [1], [4]], [[0, 2, 3, 4], [1]], [[0, 2, 4, 3], [1]], [[0, 2, 4], [1], [3]], [[0, 2], [1, 3], [4]], [[0, 2], [1, 3, 4]], [[0, 2, 1, 3], [4]], [[0, 2, 1, 3, 4]], [[0, 2, 4, 1, 3]], [[0, 2, 4], [1, 3]], [[0, 2], [1, 4, 3]], [[0, 2], [1, 4], [3]], [[0, 2, 1, 4, 3]], [[0, 2, 1, 4], [3]], [[0, 2, 3], [1, 4]], [[0, 2, 3, 1, 4]], [[0, 3, 2, 1], [4]], [[0, 3, 4, 2, 1]], [[0, 3, 1], [2], [4]], [[0, 3, 4, 1], [2]], [[0, 3, 1], [2, 4]], [[0, 3, 2, 4, 1]], [[0, 3, 2], [1], [4]], [[0, 3, 4, 2], [1]], [[0, 3], [1], [2], [4]], [[0, 3, 4], [1], [2]], [[0, 3], [1], [2, 4]], [[0, 3, 2, 4], [1]], [[0, 3, 1, 2], [4]], [[0, 3, 4, 1, 2]], [[0, 3], [1, 2], [4]], [[0, 3, 4], [1, 2]], [[0, 3], [1, 2, 4]], [[0, 3, 1, 2, 4]], [[0, 3, 1, 4, 2]], [[0, 3, 2], [1, 4]], [[0, 3], [1, 4, 2]], [[0, 3, 2, 1, 4]], [[0, 3], [1, 4], [2]], [[0, 3, 1, 4], [2]], [[0, 4, 3, 2, 1]], [[0, 4, 2, 1], [3]], [[0, 4, 3, 1], [2]], [[0, 4, 1], [2], [3]], [[0, 4, 2, 3, 1]], [[0, 4, 1], [2, 3]], [[0, 4, 3, 2], [1]], [[0, 4, 2], [1], [3]], [[0, 4, 3], [1], [2]], [[0, 4], [1], [2], [3]], [[0, 4, 2, 3], [1]], [[0, 4], [1], [2, 3]], [[0, 4, 3, 1, 2]], [[0, 4, 1, 2], [3]], [[0, 4, 3], [1, 2]], [[0, 4], [1, 2], [3]], [[0, 4, 1, 2, 3]], [[0, 4], [1, 2, 3]], [[0, 4, 2], [1, 3]], [[0, 4, 1, 3, 2]], [[0, 4, 2, 1, 3]], [[0, 4], [1, 3, 2]], [[0, 4, 1, 3], [2]], [[0, 4], [1, 3], [2]]]
def permsN : Nat → List (List Nat)
  | 1 => perms1
  | 2 => perms2
  | 3 => perms3
  | 4 => perms4
  | 5 => perms5
  | _ => []
def blocksN : Nat → List (List (List Nat))
  | 1 => blocks1
  | 2 => blocks2
  | 3 => blocks3
  | 4 => blocks4
  | 5 => blocks5
  | _ => []
noncomputable def eqR (n : Nat) (ps : List (List Nat)) (bs : List (List (List Nat))) (R : Nat) : Bool := Nat.beq (cntR (fun e => linGo R e 0) ps) (cntR (compR n R) bs)
set_option maxRecDepth 1000000 in
theorem chk5 : allTo (fun r1 => allTo (fun r2 => allTo (fun r3 => allTo (fun r4 => eqR 5 perms5 blocks5 (256 * r1 + 65536 * r2 + 16777216 * r3 + 4294967296 * r4)) 16) 8) 4) 2 = true := by decide +kernel
set_option maxRecDepth 1000000 in
theorem chk4 : allTo (fun r1 => allTo (fun r2 => allTo (fun r3 => eqR 4 perms4 blocks4 (256 * r1 + 65536 * r2 + 16777216 * r3)) 8) 4) 2 = true := by decide +kernel
theorem chk3 : allTo (fun r1 => allTo (fun r2 => eqR 3 perms3 blocks3 (256 * r1 + 65536 * r2)) 4) 2 = true := by decide +kernel
theorem chk2 : allTo (fun r1 => eqR 2 perms2 blocks2 (256 * r1)) 2 = true := by decide +kernel
theorem chk1 : eqR 1 perms1 blocks1 0 = true := by decide +kernel
theorem perms_eq : ∀ n, 1 ≤ n → n ≤ 5 → ordsN n = permsN n := by
  intro n h1 h5
  rcases (by omega : n = 1 ∨ n = 2 ∨ n = 3 ∨ n = 4 ∨ n = 5) with rfl | rfl | rfl | rfl | rfl <;> decide +kernel

/-- A permutation and its cycles. -/
def okBlocks (n : Nat) (s : List Nat) (bs : List (List Nat)) : Bool :=
  (List.range n).all (fun k => bs.any fun b => b.contains k) && bs.all (fun b => b.all fun k => decide (k < n) && b.contains (s.getD k 0) && b.all fun l => (List.range n).any fun t => iter (fun x => s.getD x 0) t k == l) &&
    bs.all (fun b => bs.all fun b' => b.all fun k => !b'.contains k || b == b')
def okAll (n : Nat) (ps : List (List Nat)) (bss : List (List (List Nat))) : Bool := decide (ps.length = bss.length) && (ps.zip bss).all fun x => okBlocks n x.1 x.2
set_option maxRecDepth 1000000 in
theorem blocks_ok : ∀ n, 1 ≤ n → n ≤ 5 → okAll n (permsN n) (blocksN n) = true := by
  intro n h1 h5
  rcases (by omega : n = 1 ∨ n = 2 ∨ n = 3 ∨ n = 4 ∨ n = 5) with rfl | rfl | rfl | rfl | rfl <;> decide +kernel

def pack (r : Nat → Nat) : Nat → Nat
  | 0 => 0
  | k + 1 => pack r k + 256 ^ k * r k
theorem chk {n : Nat} (h1 : 1 ≤ n) (h5 : n ≤ 5) {r : Nat → Nat} (hr : ∀ k, k < n → r k < 2 ^ k) : cntR (fun e => linGo (pack r n) e 0) (permsN n) = cntR (compR n (pack r n)) (blocksN n) := by
  have use : ∀ {ps bs R R'}, eqR n ps bs R = true → R' = R → cntR (fun e => linGo R' e 0) ps = cntR (compR n R') bs := fun h e => by subst e; exact Nat.eq_of_beq_eq_true h
  rcases (by omega : n = 1 ∨ n = 2 ∨ n = 3 ∨ n = 4 ∨ n = 5) with rfl | rfl | rfl | rfl | rfl
  · have h0 := hr 0 (by omega)
    exact use chk1 (by simp only [pack]; omega)
  · have h0 := hr 0 (by omega)
    have a1 := hr 1 (by omega)
    exact use (allTo_of chk2 _ a1) (by simp only [pack]; omega)
  · have h0 := hr 0 (by omega)
    have a1 := hr 1 (by omega)
    have a2 := hr 2 (by omega)
    exact use (allTo_of (allTo_of chk3 _ a1) _ a2) (by simp only [pack]; omega)
  · have h0 := hr 0 (by omega)
    have a1 := hr 1 (by omega)
    have a2 := hr 2 (by omega)
    have a3 := hr 3 (by omega)
    exact use (allTo_of (allTo_of (allTo_of chk4 _ a1) _ a2) _ a3) (by simp only [pack]; omega)
  · have h0 := hr 0 (by omega)
    have a1 := hr 1 (by omega)
    have a2 := hr 2 (by omega)
    have a3 := hr 3 (by omega)
    have a4 := hr 4 (by omega)
    exact use (allTo_of (allTo_of (allTo_of (allTo_of chk5 _ a1) _ a2) _ a3) _ a4) (by simp only [pack]; omega)
theorem row_mod (R k : Nat) : rowR R k = R / 2 ^ (8 * k) % 256 := by
  show (R >>> (8 * k)) &&& 255 = _
  rw [Nat.shiftRight_eq_div_pow]
  exact Nat.and_two_pow_sub_one_eq_mod _ 8
theorem row_pack {n : Nat} (h1 : 1 ≤ n) (h5 : n ≤ 5) {r : Nat → Nat} (hr : ∀ k, k < n → r k < 2 ^ k) : ∀ k, k < n → rowR (pack r n) k = r k := by
  intro k hk
  rw [row_mod]
  have hb : ∀ k, k < n → r k < 256 := fun k hk => Nat.lt_of_lt_of_le (hr k hk) (Nat.le_trans (Nat.pow_le_pow_right (by decide) (show k ≤ 4 by omega)) (by decide))
  rcases (by omega : n = 1 ∨ n = 2 ∨ n = 3 ∨ n = 4 ∨ n = 5) with rfl | rfl | rfl | rfl | rfl
  · have b0 := hb 0 (by omega)
    obtain rfl : k = 0 := by omega
    simp only [pack]; omega
  · have b0 := hb 0 (by omega)
    have b1 := hb 1 (by omega)
    rcases (by omega : k = 0 ∨ k = 1) with rfl | rfl <;> simp only [pack] <;> omega
  · have b0 := hb 0 (by omega)
    have b1 := hb 1 (by omega)
    have b2 := hb 2 (by omega)
    rcases (by omega : k = 0 ∨ k = 1 ∨ k = 2) with rfl | rfl | rfl <;> simp only [pack] <;> omega
  · have b0 := hb 0 (by omega)
    have b1 := hb 1 (by omega)
    have b2 := hb 2 (by omega)
    have b3 := hb 3 (by omega)
    rcases (by omega : k = 0 ∨ k = 1 ∨ k = 2 ∨ k = 3) with rfl | rfl | rfl | rfl <;> simp only [pack] <;> omega
  · have b0 := hb 0 (by omega)
    have b1 := hb 1 (by omega)
    have b2 := hb 2 (by omega)
    have b3 := hb 3 (by omega)
    have b4 := hb 4 (by omega)
    rcases (by omega : k = 0 ∨ k = 1 ∨ k = 2 ∨ k = 3 ∨ k = 4) with rfl | rfl | rfl | rfl | rfl <;> simp only [pack] <;> omega
end Go.Proofs.Ytilnbiaabhdfgaa
