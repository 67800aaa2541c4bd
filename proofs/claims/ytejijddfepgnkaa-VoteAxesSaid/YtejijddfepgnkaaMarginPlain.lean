/-
  Ballots as numbers; the margins, counted as the program counts them; a matrix of 5 by 5 numbers in its 25 cells.
-/
import Derived.Test.YtejijddfepgnkaaRefValidVote
namespace Go.Proofs.Ytejijddfepgnkaa
open Go.RowKit
set_option linter.unusedVariables false
set_option linter.unusedSimpArgs false

/-- Valid ballots: v of them, of n candidates. -/
structure BOk (W : List (List Nat)) (v n : Nat) : Prop where
  len : W.length = v
  pos : 1 ≤ v
  le : v ≤ 9
  npos : 1 ≤ n
  nle : n ≤ 5
  rows : ∀ i, i < v → Ord (W.getD i []) n
theorem votes_ok {L : List (List Int)} (h : votesB L = true) : upp (toNN L) = L ∧ BOk (toNN L) L.length (L.getD 0 []).length := by
  obtain ⟨⟨h1, h9⟩, ⟨m1, m5⟩, hr⟩ := votesB_iff.1 h
  have e : upp (toNN L) = L := by
    apply List.ext_getElem
    · simp [toNN]
    · intro i hi hi2
      simp only [upp, toNN, List.getElem_map]
      exact (ord_of (hr _ (List.getElem_mem hi2))).1
  refine ⟨e, by simp [toNN], h1, h9, m1, m5, fun i hi => ?_⟩
  have e2 : (toNN L).getD i [] = toN (L.getD i []) := by simp [toNN, List.getD_eq_getElem?_getD, hi]
  rw [e2]
  exact (ord_of (hr _ (getD_mem hi))).2

/-! ### the count -/
abbrev Mat := Nat → Nat → Int
/-- x stands before y on one ballot more. -/
def mstep (x : Nat) (M : Mat) (y : Nat) : Mat := fun a b => if a = y ∧ b = x then (if a = x ∧ b = y then M a b + 1 else M a b) - 1 else if a = x ∧ b = y then M a b + 1 else M a b
def rowM (M : Mat) (x : Nat) (l : List Nat) : Mat := l.foldl (mstep x) M
def ballotM (M : Mat) : List Nat → Mat
  | [] => M
  | x :: l => ballotM (rowM M x l) l
def margM (W : List (List Nat)) : Mat := W.foldl ballotM fun _ _ => 0

/-- The 25 cells of a matrix. -/
def matC (M : Mat) : Array Value := (Array.range 25).map fun p => .int .i64 (M (p / 5) (p % 5))
theorem matC_size (M : Mat) : (matC M).size = 25 := by simp [matC]
theorem matC_one (M : Mat) : (matC M).all (·.oneCell') = true := by
  rw [Array.all_eq_true]
  intro i hi
  simp only [matC, Array.getElem_map]
  rfl
theorem matC_at (M : Mat) {x y : Nat} (hx : x < 5) (hy : y < 5) : (matC M)[x * 5 + y]? = some (.int .i64 (M x y)) := by
  have h1 : (x * 5 + y) / 5 = x := by omega
  have h2 : (x * 5 + y) % 5 = y := by omega
  have h3 : x * 5 + y < 25 := by omega
  simp [matC, h1, h2, h3]
theorem matC_set (M : Mat) {x y : Nat} (hx : x < 5) (hy : y < 5) (z : Int) : (matC M).setIfInBounds (x * 5 + y) (.int .i64 z) = matC fun a b => if a = x ∧ b = y then z else M a b := by
  apply Array.ext
  · simp [matC]
  · intro p hp hp2
    have hp25 : p < 25 := by simpa [matC] using hp2
    rw [Array.getElem_setIfInBounds]
    simp only [matC, Array.getElem_map, Array.getElem_range]
    by_cases e : x * 5 + y = p
    · rw [if_pos e, if_pos (by omega)]
    · rw [if_neg e, if_neg (by omega)]
    · rw [matC_size]; exact hp25
theorem matC_zero : matC (fun _ _ => 0) = #[.int .i64 0, .int .i64 0, .int .i64 0, .int .i64 0, .int .i64 0, .int .i64 0, .int .i64 0, .int .i64 0, .int .i64 0, .int .i64 0, .int .i64 0, .int .i64 0, .int .i64 0, .int .i64 0, .int .i64 0, .int .i64 0, .int .i64 0, .int .i64 0, .int .i64 0, .int .i64 0, .int .i64 0, .int .i64 0, .int .i64 0, .int .i64 0, .int .i64 0] := by kernel_rfl

/-! ### what the count is -/
def mark (l : List Nat) (a b : Nat) : Int := if place l a < place l b then 1 else if place l b < place l a then -1 else 0
def marg (W : List (List Nat)) (a b : Nat) : Int := (W.map fun l => mark l a b).sum
end Go.Proofs.Ytejijddfepgnkaa
