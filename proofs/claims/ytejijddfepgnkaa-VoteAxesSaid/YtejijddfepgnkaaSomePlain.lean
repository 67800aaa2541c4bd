/-
  The reference's slices of different numbers, plain: they are the orders that the program's iterator gives.
-/
import Derived.Test.YtejijddfepgnkaaBase
namespace Go.Proofs.Ytejijddfepgnkaa
set_option linter.unusedVariables false
set_option linter.unusedSimpArgs false

/-- l, longer by one number below k that it lacks. -/
def extTo (l : List Nat) (k : Nat) : List (List Nat) := (List.range k).flatMap fun x => if x ∈ l then [] else [l ++ [x]]
theorem extTo_succ (l : List Nat) (k : Nat) : extTo l (k + 1) = extTo l k ++ if k ∈ l then [] else [l ++ [k]] := by simp [extTo, List.range_succ]
theorem extTo_zero (l : List Nat) : extTo l 0 = [] := rfl
def someN (n : Nat) : Nat → List (List Nat)
  | 0 => [[]]
  | k + 1 => (someN n k).flatMap fun l => extTo l n
/-- What the first i of the shorter ones give. -/
def someTo (L : List (List Nat)) (n i : Nat) : List (List Nat) := (L.take i).flatMap fun l => extTo l n
theorem someTo_succ (L : List (List Nat)) (n i : Nat) (h : i < L.length) : someTo L n (i + 1) = someTo L n i ++ extTo (L.getD i []) n := by
  rw [someTo, List.take_succ_eq_append_getElem h, List.flatMap_append, List.getD_eq_getElem?_getD, List.getElem?_eq_getElem h]
  simp [someTo]
theorem someTo_full (L : List (List Nat)) (n : Nat) : someTo L n L.length = L.flatMap fun l => extTo l n := by rw [someTo, List.take_length]
theorem extTo_len (l : List Nat) : ∀ k, (extTo l k).length ≤ k
  | 0 => by simp [extTo_zero]
  | k + 1 => by
    rw [extTo_succ, List.length_append]
    have := extTo_len l k
    split <;> simp <;> omega
theorem someTo_len (L : List (List Nat)) (n i : Nat) : (someTo L n i).length ≤ i * n := by
  induction i with
  | zero => simp [someTo]
  | succ i ih =>
    rcases Nat.lt_or_ge i L.length with h | h
    · rw [someTo_succ L n i h, List.length_append, Nat.succ_mul]
      have := extTo_len (L.getD i []) n
      omega
    · have : someTo L n (i + 1) = someTo L n i := by rw [someTo, someTo, List.take_of_length_le (by omega), List.take_of_length_le h]
      rw [this, Nat.succ_mul]; omega
theorem someN_len (n : Nat) (hn : n ≤ 5) : ∀ k, (someN n k).length ≤ 5 ^ k
  | 0 => by simp [someN]
  | k + 1 => by
    have h1 := someTo_len (someN n k) n (someN n k).length
    rw [someTo_full] at h1
    have h2 := someN_len n hn k
    have h3 : (someN n k).length * n ≤ 5 ^ k * 5 := Nat.mul_le_mul h2 hn
    rw [Nat.pow_succ]
    exact Nat.le_trans h1 h3
theorem someN_row (n : Nat) : ∀ k, ∀ l ∈ someN n k, l.length = k
  | 0, l, h => by simp [someN] at h; subst h; rfl
  | k + 1, l, h => by
    simp only [someN, List.mem_flatMap, extTo] at h
    obtain ⟨m, hm, x, hx, h⟩ := h
    split at h
    · cases h
    · simp at h; subst h; simp [someN_row n k m hm]
/-- The orders, by ends. -/
def extAll (n : Nat) : Nat → List (List Nat) → List (List Nat)
  | 0, L => L
  | d + 1, L => extAll n d (L.flatMap fun l => extTo l n)
theorem extAll_append (n : Nat) : ∀ (d : Nat) (A B : List (List Nat)), extAll n d (A ++ B) = extAll n d A ++ extAll n d B
  | 0, _, _ => rfl
  | d + 1, A, B => by rw [extAll, List.flatMap_append, extAll_append n d]; rfl
theorem extAll_nil (n : Nat) : ∀ d, extAll n d [] = []
  | 0 => rfl
  | d + 1 => extAll_nil n d
theorem extAll_flat (n : Nat) (d : Nat) {α : Type} (f : α → List (List Nat)) : ∀ xs : List α, extAll n d (xs.flatMap f) = xs.flatMap fun x => extAll n d (f x)
  | [] => by simp [extAll_nil]
  | x :: xs => by rw [List.flatMap_cons, extAll_append, extAll_flat n d f xs, List.flatMap_cons]
theorem ordsF_ext (n : Nat) : ∀ (d : Nat) (l : List Nat), ordsF n d l = extAll n d [l]
  | 0, l => rfl
  | d + 1, l => by
    have e : ([l] : List (List Nat)).flatMap (fun l => extTo l n) = (List.range n).flatMap fun x => if x ∈ l then [] else [l ++ [x]] := by simp [extTo]
    rw [extAll, e, extAll_flat, ordsF]
    congr 1
    funext x
    split
    · exact (extAll_nil n d).symm
    · exact ordsF_ext n d _
theorem someN_extAll (n : Nat) : ∀ (d k : Nat), extAll n d (someN n k) = someN n (k + d)
  | 0, k => rfl
  | d + 1, k => by
    rw [extAll]
    have := someN_extAll n d (k + 1)
    rw [show k + 1 + d = k + (d + 1) by omega] at this
    exact this
theorem someN_ords (n : Nat) : someN n n = ordsN n := by
  have := someN_extAll n n 0
  rw [Nat.zero_add] at this
  rw [← this, ordsN, ordsF_ext]
  rfl
end Go.Proofs.Ytejijddfepgnkaa
