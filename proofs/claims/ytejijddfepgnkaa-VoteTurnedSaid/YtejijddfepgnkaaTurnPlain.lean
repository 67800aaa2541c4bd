/-
  Ballots backward, plain.
-/
import Derived.Test.YtejijddfepgnkaaOrdPlain
namespace Go.Proofs.Ytejijddfepgnkaa
open Go.RowKit
set_option linter.unusedVariables false
set_option linter.unusedSimpArgs false

theorem ord_rev {l : List Nat} {n : Nat} (h : Ord l n) : Ord l.reverse n := ⟨by rw [List.length_reverse, h.len], fun g => by rw [List.mem_reverse]; exact h.mem g⟩
theorem getD_rev {l : List Nat} {i : Nat} (hi : i < l.length) : l.reverse.getD (l.length - 1 - i) 0 = l.getD i 0 := by
  rw [List.getD_eq_getElem?_getD, List.getD_eq_getElem?_getD, List.getElem?_reverse (by omega), show l.length - 1 - (l.length - 1 - i) = i from by omega]
theorem place_rev {l : List Nat} {n g : Nat} (h : Ord l n) (hg : g < n) : place l.reverse g + place l g + 1 = n := by
  have hr := ord_rev h
  obtain ⟨h1, h2⟩ := place_lt ((h.mem g).2 hg)
  obtain ⟨h3, h4⟩ := place_lt ((hr.mem g).2 hg)
  have h5 := getD_rev h1
  rw [h.len] at h1 h5
  rw [hr.len] at h3
  have := hr.inj (place l.reverse g) (n - 1 - place l g) h3 (by omega) (by rw [h4, h5, h2])
  omega
theorem bok_rev {W : List (List Nat)} {v n : Nat} (hW : BOk W v n) : BOk (W.map List.reverse) v n := by
  have hr : ∀ i, i < v → Ord ((W.map List.reverse).getD i []) n := fun i hi => by
    have e : (W.map List.reverse).getD i [] = (W.getD i []).reverse := by
      simp only [List.getD_eq_getElem?_getD, List.getElem?_map]
      cases W[i]? <;> rfl
    rw [e]; exact ord_rev (hW.rows i hi)
  exact { hW with len := by rw [List.length_map, hW.len], rows := hr }
theorem mark_rev {l : List Nat} {n a b : Nat} (h : Ord l n) (ha : a < n) (hb : b < n) : mark l.reverse a b = - mark l a b := by
  have h1 := place_rev h ha
  have h2 := place_rev h hb
  unfold mark
  split <;> split <;> (try split) <;> (try split) <;> omega
theorem marg_rev {W : List (List Nat)} {n a b : Nat} (hW : ∀ l ∈ W, Ord l n) (ha : a < n) (hb : b < n) : marg (W.map List.reverse) a b = - marg W a b := by
  induction W with
  | nil => simp [marg]
  | cons l W ih =>
    rw [List.map_cons, marg_cons, marg_cons, ih (fun l' hl' => hW l' (List.mem_cons_of_mem _ hl')), mark_rev (hW l (List.mem_cons_self ..)) ha hb]
    omega
theorem rdC_rev {W : List (List Nat)} {n a b : Nat} (hW : ∀ l ∈ W, Ord l n) (ha : a < n) (hb : b < n) : rdC (W.map List.reverse) a b = rdC W b a := by
  unfold rdC
  rw [List.countP_map]
  apply List.countP_congr
  intro l hl
  have h1 := place_rev (hW l hl) ha
  have h2 := place_rev (hW l hl) hb
  simp only [Function.comp_apply, decide_eq_true_eq]
  omega
theorem pS_reverse (g : Nat → Nat → Nat) : ∀ l : List Nat, pS g l.reverse = pS (fun a b => g b a) l
  | [] => rfl
  | x :: l => by
    rw [List.reverse_cons, pS_snoc, pS_reverse g l, pS]
    have : (l.reverse.map fun y => g y x).sum = (l.map fun y => g y x).sum := sum_perm ((List.reverse_perm l).map _)
    omega
theorem pS_congr {g g' : Nat → Nat → Nat} : ∀ {l : List Nat}, (∀ x ∈ l, ∀ y ∈ l, g x y = g' x y) → pS g l = pS g' l
  | [], _ => rfl
  | x :: l, h => by
    rw [pS, pS, pS_congr (l := l) fun a ha b hb => h a (List.mem_cons_of_mem _ ha) b (List.mem_cons_of_mem _ hb)]
    congr 2
    exact List.map_congr_left fun y hy => h x (List.mem_cons_self ..) y (List.mem_cons_of_mem _ hy)
theorem dis_rev {W : List (List Nat)} {n : Nat} {o : List Nat} (hW : ∀ l ∈ W, Ord l n) (ho : Ord o n) : disN (W.map List.reverse) o = disN W o.reverse := by
  rw [← rdO_eq, ← rdO_eq, rdO_pS, rdO_pS, pS_reverse]
  exact pS_congr fun x hx y hy => rdC_rev hW ((ho.mem x).1 hx) ((ho.mem y).1 hy)
end Go.Proofs.Ytejijddfepgnkaa
