/-
  The reference's Path is what the program finds.
-/
import Derived.Test.YtejijddfepgnkaaPathPlain
import Derived.Test.YtejijddfepgnkaaRefPath
import Derived.Test.YtejijddfepgnkaaSomePlain
namespace Go.Proofs.Ytejijddfepgnkaa
open Go.RowKit
set_option linter.unusedVariables false
set_option linter.unusedSimpArgs false

theorem find_cg {α : Type} {p q : α → Bool} : ∀ {l : List α}, (∀ x ∈ l, p x = q x) → l.find? p = l.find? q
  | [], _ => rfl
  | x :: l, h => by
    rw [List.find?_cons, List.find?_cons, h x (List.mem_cons_self ..), find_cg (l := l) fun y hy => h y (List.mem_cons_of_mem _ hy)]
theorem find_no {α : Type} {p : α → Bool} {l : List α} (h : ∀ x ∈ l, p x = false) : l.find? p = none := by
  rw [List.find?_eq_none]
  intro x hx
  rw [h x hx]; exact Bool.false_ne_true
theorem findSome_cg {α β : Type} {f g : α → Option β} : ∀ {l : List α}, (∀ x ∈ l, f x = g x) → l.findSome? f = l.findSome? g
  | [], _ => rfl
  | x :: l, h => by
    rw [List.findSome?_cons, List.findSome?_cons, h x (List.mem_cons_self ..), findSome_cg (l := l) fun y hy => h y (List.mem_cons_of_mem _ hy)]
theorem find_flat {α β : Type} {p : β → Bool} {f : α → List β} : ∀ l : List α, (l.flatMap f).find? p = l.findSome? fun x => (f x).find? p
  | [] => rfl
  | x :: l => by
    rw [List.flatMap_cons, List.find?_append, List.findSome?_cons, find_flat l]
    cases (f x).find? p <;> rfl
theorem ordsF_pre {n : Nat} : ∀ (d : Nat) (p q : List Nat), q ∈ ordsF n d p → ∃ t, q = p ++ t
  | 0, p, q, h => by simp only [ordsF, List.mem_singleton] at h; exact ⟨[], by rw [h]; simp⟩
  | d + 1, p, q, h => by
    simp only [ordsF, List.mem_flatMap] at h
    obtain ⟨x, _, h⟩ := h
    split at h
    · cases h
    · obtain ⟨t, rfl⟩ := ordsF_pre d _ q h
      exact ⟨x :: t, by simp⟩
theorem stp_pre {R : Nat → Nat → Prop} {p t : List Nat} (h : Stp R (p ++ t)) : Stp R p := by
  rw [stp_iff] at h ⊢
  intro j hj
  have := h j (by rw [List.length_append]; omega)
  rw [getD_app_lt (by omega), getD_app_lt hj] at this
  exact this
section
variable {M : Mat} {n c : Nat} {wd : Int}
def GP (M : Mat) (c : Nat) (wd : Int) (k : Nat) (q : List Nat) : Bool := decide (q.getD (k - 1) 0 = c) && (List.range (q.length - 1)).all fun j => decide (wd ≤ M (q.getD j 0) (q.getD (j + 1) 0))
theorem GP_iff {k : Nat} {q : List Nat} : GP M c wd k q = true ↔ q.getD (k - 1) 0 = c ∧ Stp (fun x y => wd ≤ M x y) q := by
  unfold GP
  rw [Bool.and_eq_true, decide_eq_true_eq, List.all_eq_true, stp_iff]
  refine ⟨fun h => ⟨h.1, fun j hj => ?_⟩, fun h => ⟨h.1, fun j hj => ?_⟩⟩
  · have := h.2 j (List.mem_range.2 (by omega))
    rwa [decide_eq_true_eq] at this
  · rw [decide_eq_true_eq]
    exact h.2 j (by have := List.mem_range.1 hj; omega)
theorem find_pth : ∀ (d : Nat) (p : List Nat), 1 ≤ p.length → Stp (fun x y => wd ≤ M x y) p → (ordsF n d p).find? (GP M c wd (p.length + d)) = pthF M n c wd d p
  | 0, p, hp, hs => by
    simp only [ordsF, pthF, List.find?_cons, List.find?_nil, Nat.add_zero]
    by_cases h : p.getD (p.length - 1) 0 = c
    · rw [if_pos h, GP_iff.2 ⟨h, hs⟩]
    · have : GP M c wd p.length p = false := by rw [← Bool.not_eq_true, GP_iff]; exact fun h9 => h h9.1
      rw [if_neg h, this]
  | d + 1, p, hp, hs => by
    simp only [ordsF, pthF]
    rw [find_flat]
    refine findSome_cg fun x _ => ?_
    by_cases hx : x ∈ p
    · rw [if_pos hx, if_pos (.inl hx)]; rfl
    · rw [if_neg hx]
      by_cases hw : M (p.getD (p.length - 1) 0) x < wd
      · rw [if_pos (.inr hw)]
        refine find_no fun q hq => ?_
        obtain ⟨t, rfl⟩ := ordsF_pre d _ q hq
        rw [← Bool.not_eq_true, GP_iff]
        rintro ⟨_, h⟩
        have h1 := stp_iff.1 (stp_pre h) (p.length - 1) (by rw [List.length_append, List.length_singleton]; omega)
        rw [getD_app_lt (by omega), show p.length - 1 + 1 = p.length from by omega, getD_app_at] at h1
        omega
      · rw [if_neg (fun h => by rcases h with h | h; exact hx h; exact hw h)]
        have := find_pth d (p ++ [x]) (by simp) (stp_snoc hp hs (by omega))
        rw [List.length_append, List.length_singleton, show p.length + 1 + d = p.length + (d + 1) from by omega] at this
        exact this
theorem someN_F (n k : Nat) : someN n k = ordsF n k [] := by
  have := someN_extAll n k 0
  rw [Nat.zero_add] at this
  rw [← this, ordsF_ext]; rfl
theorem find_first {a k : Nat} (ha : a < n) (hk : 1 ≤ k) {P : List Nat → Bool} (hP : ∀ q, q ∈ someN n k → (P q = true ↔ q.getD 0 0 = a ∧ GP M c wd k q = true)) : (someN n k).find? P = pthF M n c wd (k - 1) [a] := by
  obtain ⟨d, rfl⟩ : ∃ d, k = d + 1 := ⟨k - 1, by omega⟩
  rw [someN_F] at hP ⊢
  simp only [ordsF] at hP ⊢
  rw [find_flat]
  have hf : ∀ x, x < n → ((if x ∈ ([] : List Nat) then [] else ordsF n d ([] ++ [x])).find? P) = if x = a then pthF M n c wd d [a] else none := fun x hx => by
    rw [if_neg (by simp)]
    have hmem : ∀ q, q ∈ ordsF n d ([] ++ [x]) → q ∈ (List.range n).flatMap fun x => if x ∈ ([] : List Nat) then [] else ordsF n d ([] ++ [x]) := fun q hq => by
      rw [List.mem_flatMap]
      exact ⟨x, List.mem_range.2 hx, by rw [if_neg (by simp)]; exact hq⟩
    by_cases e : x = a
    · subst e
      rw [if_pos rfl, ← find_pth (M := M) (c := c) (wd := wd) d [x] (by simp) (by rw [stp_iff]; intro j hj; simp at hj)]
      refine find_cg fun q hq => ?_
      obtain ⟨t, rfl⟩ := ordsF_pre d _ q hq
      rw [Bool.eq_iff_iff, hP _ (hmem _ hq)]
      have h1 : ([] ++ [x] ++ t).getD 0 0 = x := by simp
      rw [show [x].length + d = d + 1 from by simp; omega]
      exact ⟨fun h => h.2, fun h => ⟨h1, h⟩⟩
    · rw [if_neg e]
      refine find_no fun q hq => ?_
      obtain ⟨t, rfl⟩ := ordsF_pre d _ q hq
      rw [← Bool.not_eq_true, hP _ (hmem _ hq)]
      rintro ⟨h, _⟩
      exact e (by simpa using h)
  rw [findSome_cg (fun x hx => hf x (List.mem_range.1 hx))]
  show _ = pthF M n c wd d [a]
  cases hp : pthF M n c wd d [a] with
  | none => exact findSome_no fun i _ => by split <;> rfl
  | some r => exact findSome_at ha (fun i hi => by rw [if_neg (by omega)]) (by rw [if_pos rfl])
end
theorem good_iff {W : List (List Nat)} {v n a b k : Nat} (hW : BOk W v n) (ha : a < n) (hb : b < n) (hab : a ≠ b) (hk2 : 2 ≤ k) (hkn : k ≤ n) {q : List Nat} (hq : q ∈ someN n k) :
    goodP W n a b k q = true ↔ q.getD 0 0 = a ∧ GP (margM W) b (widM n (margM W) a b) k q = true := by
  obtain ⟨hlen, hnd, hlt⟩ := (mem_someN k q).1 hq
  have h9 : W.length ≤ 9 := by rw [hW.len]; exact hW.le
  have h99 := (wTo_bd h9 n a b (n - 1)).2
  have hst : Stp (fun x y => widM n (margM W) a b ≤ margM W x y) q ↔ Stp (fun x y => widM n (margM W) a b ≤ marg W x y) q := by
    rw [stp_iff, stp_iff]
    refine ⟨fun h j hj => ?_, fun h j hj => ?_⟩
    · have := h j hj
      rwa [margM_eq hW (hlt _ (getD_mem (by omega))) (hlt _ (getD_mem hj))] at this
    · have := h j hj
      rwa [margM_eq hW (hlt _ (getD_mem (by omega))) (hlt _ (getD_mem hj))]
  rw [goodP, decide_eq_true_eq, GP_iff, hst, widM_eq hW ha hb hab]
  constructor
  · rintro ⟨h1, h2, h3⟩
    exact ⟨h1, h2, ((strN_ge).1 (by rw [h3]; exact Int.le_refl _)).2⟩
  · rintro ⟨h1, h2, h3⟩
    refine ⟨h1, h2, ?_⟩
    have g1 : widN W n a b ≤ strN W q := strN_ge.2 ⟨h99, h3⟩
    have g2 : strN W q ≤ widN W n a b := (wTo_ge (n - 1)).2 (.inr ⟨k, hk2, by omega, q, hq, h1, h2, Int.le_refl _⟩)
    omega
end Go.Proofs.Ytejijddfepgnkaa
