/-
  dates (plain): the jobs of a set, then the rest: an order.
-/
import Derived.Test.YtiadineakhcclaaDOnTP
namespace Go.Proofs.Ytiadineakhcclaa
open Go.RowKit
set_option linter.unusedVariables false
set_option linter.unusedSimpArgs false

def fstL (S n : Nat) : List Nat := (List.range n).filter fun j => S.testBit j
def rstL (S n : Nat) : List Nat := (List.range n).filter fun j => !S.testBit j
theorem fstL_succ (S k : Nat) : fstL S (k + 1) = if S.testBit k = true then fstL S k ++ [k] else fstL S k := by
  unfold fstL
  rw [List.range_succ, List.filter_append]
  by_cases h : S.testBit k = true
  · rw [if_pos h]; simp [h]
  · rw [if_neg h]; simp [h]
theorem rstL_succ (S k : Nat) : rstL S (k + 1) = if S.testBit k = true then rstL S k else rstL S k ++ [k] := by
  unfold rstL
  rw [List.range_succ, List.filter_append]
  by_cases h : S.testBit k = true
  · rw [if_pos h]; simp [h]
  · rw [if_neg h]; simp [h]
theorem fstL_len (S : Nat) : ∀ n, (fstL S n).length = cardF n S
  | 0 => rfl
  | n + 1 => by
      rw [fstL_succ, cardF, ← fstL_len S n]
      split
      · simp
      · simp
theorem fst_rst (S : Nat) : ∀ n, (fstL S n).length + (rstL S n).length = n
  | 0 => rfl
  | n + 1 => by
      have := fst_rst S n
      rw [fstL_succ, rstL_succ]
      split
      · simp; omega
      · simp; omega
theorem mem_fstL {S n x : Nat} : x ∈ fstL S n ↔ x < n ∧ S.testBit x = true := by simp [fstL]
theorem mem_rstL {S n x : Nat} : x ∈ rstL S n ↔ x < n ∧ S.testBit x = false := by simp [rstL]
theorem fst_asc (S n : Nat) : ∀ a b, a < b → b < (fstL S n).length → (fstL S n).getD a 0 < (fstL S n).getD b 0 := by
  intro a b hab hb
  have h1 : (fstL S n).Pairwise (· < ·) := List.pairwise_lt_range.filter _
  rw [List.pairwise_iff_getElem] at h1
  have := h1 a b (by omega) hb hab
  rwa [getD_cons_of (d := 0), getD_cons_of (d := 0)] at this
theorem fst_at {S n k : Nat} (hk : k < (fstL S n).length) : (fstL S n).getD k 0 < n ∧ S.testBit ((fstL S n).getD k 0) = true := by
  have := List.getElem_mem hk
  rw [getD_cons_of (d := 0)] at this
  exact mem_fstL.1 this
/-- The jobs of a set in some order, then the rest. -/
theorem ord_part {key : Nat → Int} {S n q : Nat} {s : Nat → Nat} (hq : (fstL S n).length = q) (h : Sorted0 key (fun k => (fstL S n).getD k 0) s q q) : ordB (up ((List.range q).map s) ++ up (rstL S n)) n = true := by
  have hfr := fst_rst S n
  have hin : ∀ k, k < q → s k ∈ fstL S n := fun k hk => by
    obtain ⟨m, hm, e⟩ := h.low k hk
    rw [e]
    show (fstL S n).getD m 0 ∈ _
    rw [← getD_cons_of (d := 0) (by omega)]
    exact List.getElem_mem _
  have hinj : ∀ a b, a < q → b < q → s a = s b → a = b := fun a b ha hb e => by
    rcases Nat.lt_trichotomy a b with h1 | h1 | h1
    · have := h.sorted a b h1 hb; unfold ltK at this; rw [e] at this; omega
    · exact h1
    · have := h.sorted b a h1 ha; unfold ltK at this; rw [e] at this; omega
  have hnd : ((List.range q).map s).Nodup := by
    rw [List.nodup_iff_pairwise_ne, List.pairwise_map]
    refine List.Pairwise.imp_of_mem ?_ List.nodup_range
    intro a b ha hb hne e
    exact hne (hinj a b (List.mem_range.1 ha) (List.mem_range.1 hb) e)
  have hall : ∀ x, x ∈ fstL S n → x ∈ (List.range q).map s := fun x hx => by
    rcases Classical.em (x ∈ (List.range q).map s) with h1 | h1
    · exact h1
    · exfalso
      have h2 := List.Nodup.length_le_of_subset (List.nodup_cons.2 ⟨h1, hnd⟩) (l₂ := fstL S n) (fun y hy => by
        rcases List.mem_cons.1 hy with rfl | hy
        · exact hx
        · obtain ⟨a, ha, rfl⟩ := List.mem_map.1 hy
          exact hin a (List.mem_range.1 ha))
      simp at h2
      omega
  rw [ordB_iff]
  refine ⟨by simp [up]; omega, fun x hx => ?_, fun x hx => ?_⟩
  · rcases List.mem_append.1 hx with hx | hx
    · obtain ⟨y, hy, rfl⟩ := List.mem_map.1 (show x ∈ List.map _ _ from hx)
      obtain ⟨a, ha, rfl⟩ := List.mem_map.1 hy
      have := (mem_fstL.1 (hin a (List.mem_range.1 ha))).1
      show 0 ≤ ((s a : Nat) : Int) ∧ ((s a : Nat) : Int) < n
      omega
    · obtain ⟨y, hy, rfl⟩ := List.mem_map.1 (show x ∈ List.map _ _ from hx)
      have := (mem_rstL.1 hy).1
      show 0 ≤ ((y : Nat) : Int) ∧ ((y : Nat) : Int) < n
      omega
  · rw [List.mem_append]
    cases hb : S.testBit x with
    | true => exact .inl (List.mem_map.2 ⟨x, hall x (mem_fstL.2 ⟨hx, hb⟩), rfl⟩)
    | false => exact .inr (List.mem_map.2 ⟨x, mem_rstL.2 ⟨hx, hb⟩, rfl⟩)
theorem first_ontime {L : List J4} (hL : JobsOk L) {S q : Nat} {s : Nat → Nat} (hf : fitB L S = true) (hq : (fstL S L.length).length = q) (h : Sorted0 (due L) (fun k => (fstL S L.length).getD k 0) s q q) :
    ∀ k, k < q → s k < L.length ∧ (rowN L (up ((List.range q).map s) ++ up (rstL S L.length))).getD (s k) 0 ≤ (L.getD (s k) j0).d := by
  intro k hk
  have hin : ∀ k, k < q → s k < L.length ∧ S.testBit (s k) = true := fun k hk => by
    obtain ⟨m, hm, e⟩ := h.low k hk
    rw [e]
    exact fst_at (by omega)
  have hord := ord_part hq h
  have hfr := fst_rst S L.length
  obtain ⟨o, ho⟩ : ∃ o, up ((List.range q).map s) ++ up (rstL S L.length) = o := ⟨_, rfl⟩
  have hat : ∀ j, j < q → o.getD j 0 = (s j : Nat) := fun j hj => by
    rw [← ho, List.getD_eq_getElem?_getD, List.getElem?_append_left (by simp [up]; omega)]
    simp [up, hj]
  have hlen : o.length = L.length := by rw [← ho]; simp [up]; omega
  rw [ho] at hord ⊢
  have hoi := ordB_iff.1 hord
  refine ⟨(hin k hk).1, ?_⟩
  have h1 := rowTo_at (L := L) hoi.2.1 (ord_ne hord) o.length (Nat.le_refl _) k (by omega)
  rw [hat k hk, Int.toNat_natCast] at h1
  rw [rowN, h1]
  have h2 := first_work (fun i hi => by have := hL.at_ i hi; omega) h (fun k hk => fst_at (by omega)) hat hk
  rw [fitB, decide_eq_true_iff] at hf
  have h3 := hf (s k) (hin k hk).1 (hin k hk).2
  omega
/-- What is on time, as a set. -/
def timeS (L : List J4) (o : List Int) : Nat := maskF L.length fun j => decide ((rowN L o).getD j 0 ≤ (L.getD j j0).d)
theorem timeS_bit {L : List J4} {o : List Int} {j : Nat} (hj : j < L.length) : (timeS L o).testBit j = decide ((rowN L o).getD j 0 ≤ (L.getD j j0).d) := by
  rw [timeS, testBit_maskF]; simp [hj]
theorem timeS_fit {L : List J4} (hL : JobsOk L) {o : List Int} (ho : ordB o L.length = true) : fitB L (timeS L o) = true :=
  ontime_fits (fun i hi => by have := hL.at_ i hi; omega) ho fun j hj hb => by rw [timeS_bit hj] at hb; exact of_decide_eq_true hb
theorem timeS_most {L : List J4} (hL : JobsOk L) {o : List Int} (ho : ordB o L.length = true) : cardF L.length (timeS L o) ≤ cardF L.length (mostN L) := most_max hL.le (maskF_lt _ _) (timeS_fit hL ho)
theorem timeS_weigh {L : List J4} (hL : JobsOk L) {o : List Int} (ho : ordB o L.length = true) : wtN L (timeS L o) L.length ≤ wtN L (weighN L) L.length := weigh_max (maskF_lt _ _) (timeS_fit hL ho)
end Go.Proofs.Ytiadineakhcclaa
