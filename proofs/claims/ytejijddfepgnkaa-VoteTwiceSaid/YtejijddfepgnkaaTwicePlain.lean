/-
  Every ballot counted twice, the last one first: what doubles and what stays.
-/
import Derived.Test.YtejijddfepgnkaaAxPlain
import Derived.Test.YtejijddfepgnkaaStrPlain
namespace Go.Proofs.Ytejijddfepgnkaa
open Go.RowKit
set_option linter.unusedVariables false
set_option linter.unusedSimpArgs false

def twice (W : List (List Nat)) : List (List Nat) := (W ++ W).reverse
theorem sum_rev (f : List Nat → Nat) : ∀ W : List (List Nat), (W.reverse.map f).sum = (W.map f).sum
  | [] => rfl
  | a :: t => by
    rw [List.reverse_cons, List.map_append, List.sum_append, sum_rev f t]
    simp
    omega
theorem sum_twice (f : List Nat → Nat) (W : List (List Nat)) : ((twice W).map f).sum = 2 * (W.map f).sum := by
  rw [twice, sum_rev, List.map_append, List.sum_append]; omega
theorem sumI_rev (f : List Nat → Int) : ∀ W : List (List Nat), (W.reverse.map f).sum = (W.map f).sum
  | [] => rfl
  | a :: t => by
    rw [List.reverse_cons, List.map_append, List.sum_append, sumI_rev f t]
    simp
    omega
theorem sumI_twice (f : List Nat → Int) (W : List (List Nat)) : ((twice W).map f).sum = 2 * (W.map f).sum := by
  rw [twice, sumI_rev, List.map_append, List.sum_append]; omega
theorem twice_len (W : List (List Nat)) : (twice W).length = 2 * W.length := by simp [twice]; omega
theorem twice_mem {W : List (List Nat)} {l : List Nat} : l ∈ twice W ↔ l ∈ W := by simp [twice]
theorem at_mem {W : List (List Nat)} {i : Nat} (h : i < W.length) : W.getD i [] ∈ W := by
  rw [List.getD_eq_getElem?_getD, List.getElem?_eq_getElem h]; exact List.getElem_mem _
theorem mem_at {W : List (List Nat)} {l : List Nat} (h : l ∈ W) : ∃ i, i < W.length ∧ W.getD i [] = l := by
  obtain ⟨i, hi, rfl⟩ := List.getElem_of_mem h
  exact ⟨i, hi, by rw [List.getD_eq_getElem?_getD, List.getElem?_eq_getElem hi]; rfl⟩
theorem twice_ok {W : List (List Nat)} {v n : Nat} (hW : BOk W v n) (hv : v ≤ 4) : BOk (twice W) (2 * v) n where
  len := by rw [twice_len, hW.len]
  pos := by have := hW.pos; omega
  le := by omega
  npos := hW.npos
  nle := hW.nle
  rows := fun i hi => hW.mem _ (twice_mem.1 (at_mem (by rw [twice_len, hW.len]; exact hi)))

theorem marg_twice (W : List (List Nat)) (a b : Nat) : marg (twice W) a b = 2 * marg W a b := sumI_twice _ W
theorem disN_twice (W : List (List Nat)) (o : List Nat) : disN (twice W) o = 2 * disN W o := sum_twice _ W
/-- The second matrix is twice the first. -/
def Dbl (n : Nat) (M N : Mat) : Prop := ∀ a b, a < n → b < n → N a b = 2 * M a b
theorem margM_twice {W : List (List Nat)} {v n : Nat} (hW : BOk W v n) (hv : v ≤ 4) : Dbl n (margM W) (margM (twice W)) := fun a b ha hb => by
  rw [margM_eq hW ha hb, margM_eq (twice_ok hW hv) ha hb, marg_twice]
theorem phases_dbl {n : Nat} {M N : Mat} (h : Dbl n M N) : ∀ m, m ≤ n → Dbl n (phases n M m) (phases n N m)
  | 0, _ => h
  | m + 1, hm => fun a b ha hb => by
    have ih := phases_dbl h m (by omega)
    show phase n m (phases n N m) a b = 2 * phase n m (phases n M m) a b
    have e1 := ih a b ha hb
    have e2 := ih a m ha (by omega)
    have e3 := ih m b (by omega) hb
    unfold phase
    split <;> omega
theorem widM_dbl {n : Nat} {M N : Mat} (h : Dbl n M N) : Dbl n (widM n M) (widM n N) := by
  rw [widM_phases, widM_phases]; exact phases_dbl h n (Nat.le_refl _)
theorem phases_in {n : Nat} {M : Mat} {lo hi : Int} (h : ∀ a b, a < n → b < n → lo ≤ M a b ∧ M a b ≤ hi) : ∀ m, m ≤ n → ∀ a b, a < n → b < n → lo ≤ phases n M m a b ∧ phases n M m a b ≤ hi
  | 0, _ => h
  | m + 1, hm => fun a b ha hb => by
    have ih := phases_in h m (by omega)
    show lo ≤ phase n m (phases n M m) a b ∧ phase n m (phases n M m) a b ≤ hi
    have e1 := ih a b ha hb
    have e2 := ih a m ha (by omega)
    have e3 := ih m b (by omega) hb
    unfold phase
    split <;> omega
theorem widM_in {n : Nat} {M : Mat} {lo hi : Int} (h : ∀ a b, a < n → b < n → lo ≤ M a b ∧ M a b ≤ hi) : ∀ a b, a < n → b < n → lo ≤ widM n M a b ∧ widM n M a b ≤ hi := by
  rw [widM_phases]; exact phases_in h n (Nat.le_refl _)
theorem rch_dbl {n x c : Nat} {M N : Mat} (h : Dbl n M N) : Rch M n x c ↔ Rch N n x c := by
  constructor
  · intro hr
    induction hr with
    | here hx => exact .here hx
    | step h1 h2 h3 ih => exact .step ih h2 (by rw [h _ _ h1.lt h2]; omega)
  · intro hr
    induction hr with
    | here hx => exact .here hx
    | step h1 h2 h3 ih => exact .step ih h2 (by rw [h _ _ h1.lt h2] at h3; omega)
theorem setR_dbl {n x : Nat} {M N : Mat} (h : Dbl n M N) : setR M n x = setR N n x := by
  apply Nat.eq_of_testBit_eq
  intro c
  rw [Bool.eq_iff_iff, setR_bit, setR_bit, rch_dbl h]
theorem bstN_dbl {n : Nat} {M N : Mat} (h : Dbl n M N) : ∀ m, bstN M n m = bstN N n m
  | 0 => rfl
  | m + 1 => by rw [bstN, bstN, setR_dbl h, bstN_dbl h m]
theorem bestN_dbl {n : Nat} {M N : Mat} (h : Dbl n M N) : bestN M n = bestN N n := bstN_dbl h n
theorem strongB_dbl {n a : Nat} {M N : Mat} (h : Dbl n M N) (ha : a < n) : strongB M n a = strongB N n a := by
  rw [Bool.eq_iff_iff, strongB_iff, strongB_iff]
  constructor
  · intro hs c hc hx
    rw [h _ _ ha hc, h _ _ hc ha] at hx
    exact hs c hc (by omega)
  · intro hs c hc hx
    exact hs c hc (by rw [h _ _ ha hc, h _ _ hc ha]; omega)
theorem pathsN_dbl {n : Nat} {M N : Mat} (h : Dbl n M N) : pathsN M n = pathsN N n := fidx_congr fun a ha => strongB_dbl h ha

theorem kem_run (W : List (List Nat)) : ∀ (L : List (List Nat)) (s t : Option (List Nat) × Nat), t.1 = s.1 → t.2 = 2 * s.2 →
    (runJ (kemSt (twice W)) L t).1.1 = (runJ (kemSt W) L s).1.1
  | [], s, t, h1, h2 => h1
  | x :: L, s, t, h1, h2 => by
    show (runJ (kemSt (twice W)) L (kemSt (twice W) t x).1).1.1 = (runJ (kemSt W) L (kemSt W s x).1).1.1
    have hd := disN_twice W x
    have hg : (t.1 = none ∨ disN (twice W) x < t.2) ↔ (s.1 = none ∨ disN W x < s.2) := by
      rw [h1, h2, hd]
      constructor
      · rintro (g | g)
        · exact .inl g
        · exact .inr (by omega)
      · rintro (g | g)
        · exact .inl g
        · exact .inr (by omega)
    by_cases g : s.1 = none ∨ disN W x < s.2
    · refine kem_run W L _ _ ?_ ?_
      · show (if t.1 = none ∨ disN (twice W) x < t.2 then (some x, disN (twice W) x) else t).1 = (if s.1 = none ∨ disN W x < s.2 then (some x, disN W x) else s).1
        rw [if_pos g, if_pos (hg.2 g)]
      · show (if t.1 = none ∨ disN (twice W) x < t.2 then (some x, disN (twice W) x) else t).2 = 2 * (if s.1 = none ∨ disN W x < s.2 then (some x, disN W x) else s).2
        rw [if_pos g, if_pos (hg.2 g)]
        exact hd
    · have g' := fun q => g (hg.1 q)
      refine kem_run W L _ _ ?_ ?_
      · show (if t.1 = none ∨ disN (twice W) x < t.2 then (some x, disN (twice W) x) else t).1 = (if s.1 = none ∨ disN W x < s.2 then (some x, disN W x) else s).1
        rw [if_neg g, if_neg g']
        exact h1
      · show (if t.1 = none ∨ disN (twice W) x < t.2 then (some x, disN (twice W) x) else t).2 = 2 * (if s.1 = none ∨ disN W x < s.2 then (some x, disN W x) else s).2
        rw [if_neg g, if_neg g']
        exact h2
theorem kemO_twice (W : List (List Nat)) (n : Nat) : kemO (twice W) n = kemO W n := by
  unfold kemO
  rw [kem_run W (ordsN n) (none, 0) (none, 0) rfl rfl]

theorem take_sum (f : List Nat → Nat) (p : Nat → Nat) (W : List (List Nat)) (h0 : p 0 = 0) (hs : ∀ k, p (k + 1) = p k + f (W.getD k [])) : ∀ k, k ≤ W.length → p k = ((W.take k).map f).sum
  | 0, _ => by rw [h0]; rfl
  | k + 1, hk => by
    rw [hs, take_sum f p W h0 hs k (by omega), List.take_succ_eq_append_getElem (by omega), List.map_append, List.sum_append, List.getD_eq_getElem?_getD, List.getElem?_eq_getElem (by omega)]
    simp
theorem all_sum (f : List Nat → Nat) (p : Nat → Nat) (W : List (List Nat)) (h0 : p 0 = 0) (hs : ∀ k, p (k + 1) = p k + f (W.getD k [])) : p W.length = (W.map f).sum := by
  rw [take_sum f p W h0 hs _ (Nat.le_refl _), List.take_length]
theorem firsts_sum (W : List (List Nat)) (a : Nat) : firstsP W W.length a = (W.map fun l => if a = l.getD 0 0 then 1 else 0).sum :=
  all_sum _ (fun k => firstsP W k a) W rfl fun k => by
    show firstsP W (k + 1) a = _
    rw [firstsP]; split <;> rfl
theorem borda_sum (W : List (List Nat)) (n a : Nat) : bordaP W n W.length a = (W.map fun l => bordaI l n n a).sum :=
  all_sum _ (fun k => bordaP W n k a) W rfl fun k => rfl
theorem best_dbl {f g : Nat → Nat} {n : Nat} (hn : 1 ≤ n) (h : ∀ a, g a = 2 * f a) : idx (pointsL n g) (maxP (pointsL n g) n) = idx (pointsL n f) (maxP (pointsL n f) n) := by
  rw [best_idx_eq f hn, best_idx_eq g hn]
  obtain ⟨f1, f2, f3, f4⟩ := bestTo_spec f n hn
  obtain ⟨g1, g2, g3, g4⟩ := bestTo_spec g n hn
  generalize (bestTo f n).1 = x at *
  generalize (bestTo g n).1 = y at *
  rcases Nat.lt_trichotomy x y with hx | hx | hx
  · have a1 := g4 x hx
    have a2 := f3 y g1
    rw [h, h] at a1
    omega
  · rw [hx]
  · have a1 := f4 y hx
    have a2 := g3 x f1
    rw [h, h] at a2
    omega
theorem winN_twice {W : List (List Nat)} {v n : Nat} (r : Nat) (hW : BOk W v n) (hv : v ≤ 4) : winN (twice W) (2 * v) n r = winN W v n r := by
  have hl := hW.len
  have h2 : (twice W).length = 2 * v := by rw [twice_len, hl]
  have e0 : firstsN (twice W) (2 * v) n = firstsN W v n := by
    unfold firstsN
    exact best_dbl hW.npos fun a => by
      have := firsts_sum (twice W) a
      rw [h2, sum_twice] at this
      rw [this, ← firsts_sum, hl]
  have e1 : bordaN (twice W) (2 * v) n = bordaN W v n := by
    unfold bordaN
    exact best_dbl hW.npos fun a => by
      have := borda_sum (twice W) n a
      rw [h2, sum_twice] at this
      rw [this, ← borda_sum, hl]
  have e2 := pathsN_dbl (widM_dbl (margM_twice hW hv))
  unfold winN
  rw [e0, e1, ← e2, kemO_twice]
theorem bestN_twice {W : List (List Nat)} {v n : Nat} (hW : BOk W v n) (hv : v ≤ 4) : bestN (margM (twice W)) n = bestN (margM W) n := (bestN_dbl (margM_twice hW hv)).symm
theorem axN_twice {W : List (List Nat)} {v n : Nat} (hW : BOk W v n) (hv : v ≤ 4) : axN (twice W) (2 * v) n = axN W v n := by
  refine axN_set (twice_ok hW hv) hW (fun i hi => ?_) fun j hj => ?_
  · obtain ⟨j, hj, e⟩ := mem_at (twice_mem.1 (at_mem (W := twice W) (i := i) (by rw [twice_len, hW.len]; exact hi)))
    exact ⟨j, by rw [← hW.len]; exact hj, e⟩
  · obtain ⟨i, hi, e⟩ := mem_at (twice_mem.2 (at_mem (W := W) (i := j) (by rw [hW.len]; exact hj)))
    exact ⟨i, by rw [twice_len, hW.len] at hi; exact hi, e⟩

end Go.Proofs.Ytejijddfepgnkaa
