/-
  Committees by approvals, plain: what is computed.
-/
import Derived.Test.YtejijddfepgnkaaBase
namespace Go.Proofs.Ytejijddfepgnkaa
open Go.RowKit
set_option linter.unusedVariables false
set_option linter.unusedSimpArgs false

/-- Approvals are valid. -/
def appB (c k : Int) (l : List Int) : Bool := decide (1 ≤ c ∧ c ≤ 8 ∧ 1 ≤ k ∧ k ≤ c ∧ 1 ≤ l.length ∧ l.length ≤ 9) && l.all fun s => decide (0 ≤ s ∧ s < 2 ^ c.toNat)
theorem appB_iff {c k : Int} {l : List Int} : appB c k l = true ↔ (1 ≤ c ∧ c ≤ 8 ∧ 1 ≤ k ∧ k ≤ c ∧ 1 ≤ l.length ∧ l.length ≤ 9) ∧ ∀ s ∈ l, 0 ≤ s ∧ s < 2 ^ c.toNat := by
  unfold appB
  rw [Bool.and_eq_true, decide_eq_true_eq, List.all_eq_true]
  simp only [decide_eq_true_eq]
theorem appB_take (c k : Int) (l : List Int) : appB c k (l.take 11) = appB c k l := by
  by_cases h : l.length ≤ 11
  · rw [List.take_of_length_le h]
  · have h1 : appB c k l = false := by
      cases h' : appB c k l with
      | false => rfl
      | true => have := (appB_iff.1 h').1; omega
    have h2 : appB c k (l.take 11) = false := by
      cases h' : appB c k (l.take 11) with
      | false => rfl
      | true => have := (appB_iff.1 h').1; simp only [List.length_take] at this; omega
    rw [h1, h2]
theorem app_same {c k : Int} {l : List Int} (h : appB c k l = true) : l.take 11 = l := List.take_of_length_le (by have := (appB_iff.1 h).1; omega)
/-- Valid approvals, as numbers. -/
structure AOk (S : List Nat) (C K v : Nat) : Prop where
  c1 : 1 ≤ C
  c8 : C ≤ 8
  k1 : 1 ≤ K
  kc : K ≤ C
  len : S.length = v
  v1 : 1 ≤ v
  v9 : v ≤ 9
  lt : ∀ i, i < v → S.getD i 0 < 2 ^ C
theorem app_ok {c k : Int} {l : List Int} (h : appB c k l = true) : ∃ (C K : Nat) (S : List Nat), c = C ∧ k = K ∧ up S = l ∧ AOk S C K l.length := by
  obtain ⟨⟨h1, h2, h3, h4, h5, h6⟩, h7⟩ := appB_iff.1 h
  refine ⟨c.toNat, k.toNat, toN l, by omega, by omega, up_toN fun x hx => (h7 x hx).1, ⟨by omega, by omega, by omega, by omega, by simp [toN], h5, h6, fun i hi => ?_⟩⟩
  have hm : l.getD i 0 ∈ l := getD_mem hi
  obtain ⟨g1, g2⟩ := h7 _ hm
  have e : (toN l).getD i 0 = (l.getD i 0).toNat := by
    simp only [toN, List.getD_eq_getElem?_getD, List.getElem?_map]
    cases l[i]? <;> rfl
  rw [e]
  have : ((l.getD i 0).toNat : Int) < ((2 ^ c.toNat : Nat) : Int) := by
    rw [Int.toNat_of_nonneg g1]; push_cast; exact g2
  omega
theorem AOk.pow {S : List Nat} {C K v : Nat} (h : AOk S C K v) : 2 ^ C ≤ 256 := by have := h.c8; exact Nat.le_trans (Nat.pow_le_pow_right (by decide) this) (by decide)
theorem AOk.lt8 {S : List Nat} {C K v : Nat} (h : AOk S C K v) {i : Nat} (hi : i < v) : S.getD i 0 < 256 := Nat.lt_of_lt_of_le (h.lt i hi) h.pow

/-- How many of a set. -/
def cn (M : Nat) : Nat := cardF 9 M
theorem cn_le (M : Nat) : cn M ≤ 9 := cardF_le 9 M
theorem cn_low : ∀ t : Fin 512, 0 < t.val → cn (t.val &&& (t.val - 1)) + 1 = cn t.val ∧ (t.val &&& (t.val - 1)) < t.val := by decide +kernel
theorem cn_zero : cn 0 = 0 := by decide
/-- 840 times the score that m members give. -/
def part : Nat → Nat
  | 0 => 0
  | m + 1 => part m + 840 / (m + 1)
theorem part_le : ∀ m, part m ≤ 840 * m
  | 0 => Nat.le_refl _
  | m + 1 => by
    have h1 := part_le m
    have h2 : 840 / (m + 1) ≤ 840 := Nat.div_le_self _ _
    simp only [part]
    omega
def scTo (S : List Nat) (M : Nat) : Nat → Nat
  | 0 => 0
  | i + 1 => scTo S M i + part (cn (S.getD i 0 &&& M))
theorem scTo_le (S : List Nat) (M : Nat) : ∀ i, scTo S M i ≤ 7560 * i
  | 0 => Nat.le_refl _
  | i + 1 => by
    have h1 := scTo_le S M i
    have h2 := part_le (cn (S.getD i 0 &&& M))
    have h3 := cn_le (S.getD i 0 &&& M)
    simp only [scTo]
    omega
def scN (S : List Nat) (M : Nat) : Nat := scTo S M S.length
/-- The best committee below i. -/
def comF (S : List Nat) (K : Nat) : Nat → Int
  | 0 => -1
  | i + 1 => if cn i = K ∧ (comF S K i < 0 ∨ scN S (comF S K i).toNat < scN S i) then (i : Nat) else comF S K i
theorem comF_bd (S : List Nat) (K : Nat) : ∀ i, -1 ≤ comF S K i ∧ comF S K i < i
  | 0 => by simp [comF]
  | i + 1 => by
    have := comF_bd S K i
    simp only [comF]
    split <;> constructor <;> first | omega | (push_cast; omega)
def comN (S : List Nat) (C K : Nat) : Int := comF S K (2 ^ C)
/-- What all of a group's first i approve of. -/
def comm (S : List Nat) (C g : Nat) : Nat → Nat
  | 0 => 2 ^ C - 1
  | i + 1 => if g.testBit i then comm S C g i &&& S.getD i 0 else comm S C g i
theorem comm_lt (S : List Nat) (C g : Nat) : ∀ i, comm S C g i < 2 ^ C
  | 0 => by have := Nat.two_pow_pos C; simp only [comm]; omega
  | i + 1 => by
    have := comm_lt S C g i
    simp only [comm]
    split
    · exact Nat.lt_of_le_of_lt Nat.and_le_left this
    · exact this
/-- Somebody of a group's first n approves of a member. -/
def meetB (S : List Nat) (com g n : Nat) : Bool := (List.range n).any fun j => g.testBit j && (S.getD j 0 &&& com) != 0
theorem meetB_iff {S : List Nat} {com g n : Nat} : meetB S com g n = true ↔ ∃ j, j < n ∧ g.testBit j = true ∧ S.getD j 0 &&& com ≠ 0 := by
  simp [meetB, List.any_eq_true]
def blkB (S : List Nat) (C K com g : Nat) : Bool := decide (S.length ≤ cn g * K) && (!meetB S com g S.length) && decide (comm S C g S.length ≠ 0)
def grpF (S : List Nat) (C K com : Nat) : Nat → Nat
  | 0 => 0
  | i + 1 => if cn (grpF S C K com i) < cn i ∧ blkB S C K com i = true then i else grpF S C K com i
theorem grpF_bd (S : List Nat) (C K com : Nat) : ∀ i, grpF S C K com i = 0 ∨ grpF S C K com i < i
  | 0 => Or.inl rfl
  | i + 1 => by
    have := grpF_bd S C K com i
    simp only [grpF]
    split
    · exact Or.inr (by omega)
    · omega
def grpN (S : List Nat) (C K com : Nat) : Nat := grpF S C K com (2 ^ S.length)
end Go.Proofs.Ytejijddfepgnkaa
