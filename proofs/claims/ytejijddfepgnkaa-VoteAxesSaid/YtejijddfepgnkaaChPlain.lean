/-
  All rising choices of d numbers from a number on, below n, in order: plain.
-/
import Derived.Test.YtejijddfepgnkaaBase
namespace Go.Proofs.Ytejijddfepgnkaa
open Go.RowKit
set_option linter.unusedVariables false
set_option linter.unusedSimpArgs false

/-- All rising lists of d numbers from f on, below n, in order. -/
def ris (n : Nat) : Nat → Nat → List (List Nat)
  | 0, _ => [[]]
  | d + 1, f => (List.range' f (n - f)).flatMap fun x => (ris n d (x + 1)).map (x :: ·)
/-- Those that begin with l, d numbers being left. -/
def chsG (n : Nat) : Nat → Nat → List Nat → List (List Nat)
  | 0, _, l => [l]
  | d + 1, f, l => (List.range' f (n - f)).flatMap fun x => chsG n d (x + 1) (l ++ [x])
def chsTo (n d f : Nat) (l : List Nat) (x : Nat) : List (List Nat) := (List.range' f (x - f)).flatMap fun x => chsG n d (x + 1) (l ++ [x])
theorem chsTo_zero (n d f : Nat) (l : List Nat) : chsTo n d f l f = [] := by simp [chsTo]
theorem chsTo_succ (n d f : Nat) (l : List Nat) {x : Nat} (h : f ≤ x) : chsTo n d f l (x + 1) = chsTo n d f l x ++ chsG n d (x + 1) (l ++ [x]) := by
  rw [chsTo, chsTo, show x + 1 - f = (x - f) + 1 by omega, List.range'_concat, List.flatMap_append]
  simp only [List.flatMap_cons, List.flatMap_nil, List.append_nil, Nat.one_mul]
  rw [show f + (x - f) = x by omega]
theorem chsTo_split (n d f : Nat) (l : List Nat) {x : Nat} (hf : f ≤ x) (hx : x ≤ n) : ∃ t, chsG n (d + 1) f l = chsTo n d f l x ++ t := by
  refine ⟨(List.range' x (n - x)).flatMap fun x => chsG n d (x + 1) (l ++ [x]), ?_⟩
  rw [chsTo, ← List.flatMap_append, chsG]
  congr 1
  rw [show n - f = (x - f) + (n - x) by omega, ← List.range'_append]
  congr 2
  omega
theorem chsTo_full (n d f : Nat) (l : List Nat) {x : Nat} (hx : n ≤ x) (hf : f ≤ x) (h : x = max f n) : chsTo n d f l x = chsG n (d + 1) f l := by
  rw [chsTo, chsG]
  congr 2
  omega
theorem chsG_ris (n : Nat) : ∀ d f l, chsG n d f l = (ris n d f).map (l ++ ·)
  | 0, f, l => by simp [chsG, ris]
  | d + 1, f, l => by
    rw [chsG, ris, List.map_flatMap]
    congr 1
    funext x
    rw [chsG_ris n d (x + 1) (l ++ [x]), List.map_map]
    congr 1
    funext t
    simp
theorem chsG_nil (n d f : Nat) : chsG n d f [] = ris n d f := by rw [chsG_ris]; simp
/-- What a rising list from f on is. -/
def Rsn (n f : Nat) : List Nat → Prop
  | [] => True
  | x :: l => f ≤ x ∧ x < n ∧ Rsn n (x + 1) l
theorem mem_ris {n : Nat} : ∀ {d f : Nat} {l : List Nat}, l ∈ ris n d f ↔ l.length = d ∧ Rsn n f l
  | 0, f, l => by
    rw [ris, List.mem_singleton]
    constructor
    · rintro rfl; exact ⟨rfl, trivial⟩
    · rintro ⟨h, _⟩; exact List.length_eq_zero_iff.1 h
  | d + 1, f, l => by
    rw [ris, List.mem_flatMap]
    constructor
    · rintro ⟨x, hx, h⟩
      obtain ⟨t, ht, rfl⟩ := List.mem_map.1 h
      obtain ⟨h1, h2⟩ := mem_ris.1 ht
      obtain ⟨i, hi, e⟩ := List.mem_range'.1 hx
      exact ⟨by rw [List.length_cons, h1], by omega, by omega, h2⟩
    · rintro ⟨h1, h2⟩
      cases l with
      | nil => simp at h1
      | cons x t =>
        obtain ⟨g1, g2, g3⟩ := h2
        refine ⟨x, List.mem_range'.2 ⟨x - f, by omega, by omega⟩, List.mem_map.2 ⟨t, mem_ris.2 ⟨by simpa using h1, g3⟩, rfl⟩⟩
theorem Rsn.mono {n : Nat} : ∀ {l : List Nat} {f g : Nat}, g ≤ f → Rsn n f l → Rsn n g l
  | [], _, _, _, _ => trivial
  | x :: l, f, g, h, ⟨h1, h2, h3⟩ => ⟨by omega, h2, h3⟩
theorem Rsn.ge {n : Nat} : ∀ {l : List Nat} {f : Nat}, Rsn n f l → ∀ x ∈ l, f ≤ x ∧ x < n
  | [], _, _, x, hx => nomatch hx
  | y :: l, f, ⟨h1, h2, h3⟩, x, hx => by
    rcases List.mem_cons.1 hx with rfl | hx
    · exact ⟨h1, h2⟩
    · have := Rsn.ge h3 x hx; omega
theorem Rsn.nodup {n : Nat} : ∀ {l : List Nat} {f : Nat}, Rsn n f l → l.Nodup
  | [], _, _ => List.nodup_nil
  | y :: l, f, ⟨h1, h2, h3⟩ => List.nodup_cons.2 ⟨fun h => by have := h3.ge y h; omega, h3.nodup⟩
/-- One less is rising too. -/
theorem Rsn.less {n : Nat} : ∀ {l : List Nat} {f : Nat} (i : Nat), Rsn n f l → Rsn n f (l.eraseIdx i)
  | [], _, i, h => h
  | x :: l, f, 0, ⟨h1, h2, h3⟩ => h3.mono (by omega)
  | x :: l, f, i + 1, ⟨h1, h2, h3⟩ => ⟨h1, h2, Rsn.less i h3⟩
theorem range_rsn {n : Nat} : ∀ {d f : Nat}, f + d = n → Rsn n f (List.range' f d)
  | 0, _, _ => trivial
  | d + 1, f, h => ⟨Nat.le_refl _, by omega, range_rsn (d := d) (by omega)⟩
theorem range_ris (n : Nat) : List.range n ∈ ris n n 0 := mem_ris.2 ⟨List.length_range, by rw [List.range_eq_range']; exact range_rsn (by omega)⟩
theorem Rsn.le {n : Nat} : ∀ {l : List Nat} {f : Nat}, Rsn n f l → f + l.length ≤ n ∨ l = []
  | [], _, _ => .inr rfl
  | x :: l, f, ⟨h1, h2, h3⟩ => by
    left
    rw [List.length_cons]
    rcases Rsn.le h3 with h | rfl
    · omega
    · show f + (0 + 1) ≤ n; omega
end Go.Proofs.Ytejijddfepgnkaa
