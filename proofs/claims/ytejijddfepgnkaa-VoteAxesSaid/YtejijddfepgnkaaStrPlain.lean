/-
  Strength by widths, plain: who is stronger, who is in the best set, and a candidate who beats all others.
-/
import Derived.Test.YtejijddfepgnkaaVPlain
import Derived.Test.YtejijddfepgnkaaOrdPlain
import Derived.Test.YtejijddfepgnkaaWidPlain
import Derived.Test.YtejijddfepgnkaaMargEq
import Derived.Test.YtejijddfepgnkaaBest
import Derived.Test.YtejijddfepgnkaaWinV
namespace Go.Proofs.Ytejijddfepgnkaa
open Go.RowKit
set_option linter.unusedVariables false
set_option linter.unusedSimpArgs false

theorem widM_ge {n : Nat} (M : Mat) (a b : Nat) : M a b ≤ widM n M a b := by rw [widM_phases]; exact phases_ge M a b n
theorem widM_tri {n : Nat} (M : Mat) {a b c : Nat} (ha : a < n) (hb : b < n) (hc : c < n) (hab : a ≠ b) (hbc : b ≠ c) (hac : a ≠ c) : min (widM n M a b) (widM n M b c) ≤ widM n M a c := by
  rw [widM_phases]; exact phases_tri M n (Nat.le_refl _) a b c ha hb hc hab hbc hac
theorem widM_self {n : Nat} (M : Mat) (a : Nat) : widM n M a a = M a a := by
  rw [widM_phases]
  have : ∀ m, phases n M m a a = M a a := fun m => by
    induction m with
    | zero => rfl
    | succ m ih => show phase n m (phases n M m) a a = _; unfold phase; rw [if_neg (fun h => h.2.2.1 rfl)]; exact ih
  exact this n
theorem str_trans {n : Nat} {M : Mat} {a b c : Nat} (ha : a < n) (hb : b < n) (hc : c < n) (h1 : widM n M b a < widM n M a b) (h2 : widM n M c b < widM n M b c) : widM n M c a < widM n M a c := by
  have hab : a ≠ b := fun e => by subst e; omega
  have hbc : b ≠ c := fun e => by subst e; omega
  have hac : a ≠ c := fun e => by subst e; omega
  have t1 := widM_tri M ha hb hc hab hbc hac
  have t2 := widM_tri M hb hc ha hbc (fun e => hac e.symm) (fun e => hab e.symm)
  have t3 := widM_tri M hc ha hb (fun e => hac e.symm) hab (fun e => hbc e.symm)
  omega
theorem strongB_iff {n a : Nat} {D : Mat} : strongB D n a = true ↔ ∀ c, c < n → ¬ D a c < D c a := by
  rw [strongB, Bool.not_eq_true', decide_eq_false_iff_not, fidx_nonneg]
  constructor
  · intro h c hc h9
    exact h ⟨c, hc, decide_eq_true h9⟩
  · rintro h ⟨c, hc, h9⟩
    rw [decide_eq_true_eq] at h9
    exact h c hc h9
/-- Some candidate is at least as strong as all others. -/
theorem some_strong {n : Nat} (M : Mat) : ∀ m, 1 ≤ m → m ≤ n → ∃ a, a < m ∧ ∀ c, c < m → ¬ widM n M a c < widM n M c a
  | 0, h, _ => by omega
  | 1, _, _ => by
    refine ⟨0, by omega, fun c hc => ?_⟩
    obtain rfl : c = 0 := by omega
    omega
  | m + 2, _, hm => by
    obtain ⟨a, ha, h⟩ := some_strong (n := n) M (m + 1) (by omega) (by omega)
    by_cases hx : widM n M a (m + 1) < widM n M (m + 1) a
    · refine ⟨m + 1, by omega, fun c hc h9 => ?_⟩
      rcases (by omega : c < m + 1 ∨ c = m + 1) with h1 | rfl
      · exact h c h1 (str_trans (n := n) (M := M) (a := c) (b := m + 1) (c := a) (by omega) (by omega) (by omega) h9 hx)
      · omega
    · refine ⟨a, by omega, fun c hc => ?_⟩
      rcases (by omega : c < m + 1 ∨ c = m + 1) with h1 | rfl
      · exact h c h1
      · exact hx
/-- What does not get into a set by steps does not get into it by ways. -/
theorem phases_cut {n : Nat} {M : Mat} {S : Nat → Prop} (h : ∀ f a, f < n → a < n → ¬ S f → S a → M f a < 0) : ∀ m, m ≤ n → ∀ f a, f < n → a < n → ¬ S f → S a → phases n M m f a < 0
  | 0, _ => h
  | m + 1, hm => fun f a hf ha hSf hSa => by
    have ih := phases_cut h m (by omega)
    show phase n m (phases n M m) f a < 0
    unfold phase
    have h1 := ih f a hf ha hSf hSa
    split
    · by_cases hk : S m
      · have h2 := ih f m hf (by omega) hSf hk; omega
      · have h2 := ih m a (by omega) ha hk hSa; omega
    · exact h1
theorem widM_cut {n : Nat} {M : Mat} {S : Nat → Prop} (h : ∀ f a, f < n → a < n → ¬ S f → S a → M f a < 0) {f a : Nat} (hf : f < n) (ha : a < n) (hSf : ¬ S f) (hSa : S a) : widM n M f a < 0 := by
  rw [widM_phases]; exact phases_cut h n (Nat.le_refl _) f a hf ha hSf hSa
def Anti (n : Nat) (M : Mat) : Prop := ∀ a b, a < n → b < n → M a b = - M b a
theorem bst_form {M : Mat} {n : Nat} : ∀ m, 1 ≤ m → m ≤ n → ∃ x, x < n ∧ bstN M n m = setR M n x
  | 0, h, _ => by omega
  | m + 1, _, hm => by
    rw [bstN]
    by_cases h0 : sdiff (setR M n m) (bstN M n m) = 0
    · rw [if_pos h0]; exact ⟨m, by omega, rfl⟩
    · rw [if_neg h0]
      rcases Nat.eq_zero_or_pos m with rfl | hp
      · exfalso
        apply h0
        apply Nat.eq_of_testBit_eq
        intro i
        rw [testBit_sdiff, Nat.zero_testBit]
        cases hi : (setR M n 0).testBit i with
        | false => rfl
        | true =>
          have := testBit_lt setR_lt hi
          show (true && !(2 ^ n - 1).testBit i) = false
          rw [Nat.testBit_two_pow_sub_one, decide_eq_true this]; rfl
      · exact bst_form m hp (by omega)
/-- Who is at least as strong as all others is in the best set. -/
theorem strong_best {n : Nat} {M : Mat} (hM : Anti n M) (hn : 1 ≤ n) {f : Nat} (hf : f < n) (hs : ∀ c, c < n → ¬ widM n M f c < widM n M c f) : (bestN M n).testBit f = true := by
  obtain ⟨x, hx, e⟩ := bst_form (M := M) n hn (Nat.le_refl _)
  rw [bestN, e, setR_bit]
  refine Classical.byContradiction fun hno => ?_
  have hcut : ∀ g a, g < n → a < n → ¬ Rch M n x g → Rch M n x a → M g a < 0 := fun g a hg ha h1 h2 => by
    have h3 : ¬ M a g ≤ 0 := fun h9 => h1 (.step h2 hg h9)
    have := hM g a hg ha
    omega
  have h1 := widM_cut (S := Rch M n x) hcut hf hx hno (.here hx)
  have h2 : ¬ M x f ≤ 0 := fun h9 => hno (.step (.here hx) hf h9)
  have h3 := widM_ge (n := n) M x f
  exact hs x hx (by omega)
theorem marg_anti {W : List (List Nat)} {v n : Nat} (hW : BOk W v n) : Anti n (margM W) := fun a b ha hb => by
  have hWo : ∀ l ∈ W, Ord l n := fun l hl => by
    obtain ⟨i, hi, rfl⟩ := List.getElem_of_mem hl
    have := hW.rows i (by rw [← hW.len]; exact hi)
    rwa [List.getD_eq_getElem?_getD, List.getElem?_eq_getElem hi] at this
  rw [margM_eq hW ha hb, margM_eq hW hb ha]
  by_cases e : a = b
  · subst e
    have : marg W a a = 0 := by
      clear hWo hW
      induction W with
      | nil => simp [marg]
      | cons l W ih => rw [marg_cons, ih]; simp [mark]
    omega
  · have h1 := (rdC_marg hWo ha hb e).2
    have h2 := (rdC_marg hWo hb ha (fun e' => e e'.symm)).2
    omega

/-! ### who beats all others -/
section
variable {W : List (List Nat)} {v n a : Nat}
def Beats (W : List (List Nat)) (n a : Nat) : Prop := ∀ b, b < n → a = b ∨ 0 < marg W a b
theorem beats_wid (hW : BOk W v n) (ha : a < n) (h : Beats W n a) {b : Nat} (hb : b < n) (hab : a ≠ b) : widM n (margM W) b a < 0 ∧ 0 < widM n (margM W) a b := by
  have hA := marg_anti hW
  constructor
  · refine widM_cut (S := fun x => x = a) (fun f c hf hc h1 h2 => ?_) hb ha (fun e => hab e.symm) rfl
    subst h2
    rw [hA f c hf hc, margM_eq hW hc hf]
    rcases h f hf with e | h9
    · exact absurd e.symm h1
    · omega
  · have h1 := widM_ge (n := n) (margM W) a b
    rw [margM_eq hW ha hb] at h1
    rcases h b hb with e | h9
    · exact absurd e hab
    · omega
theorem beats_strong (hW : BOk W v n) (ha : a < n) (h : Beats W n a) : ∀ c, c < n → ¬ widM n (margM W) a c < widM n (margM W) c a := fun c hc h9 => by
  by_cases e : a = c
  · subst e; omega
  · have := beats_wid hW ha h hc e; omega
theorem beats_paths (hW : BOk W v n) (ha : a < n) (h : Beats W n a) : pathsN (widM n (margM W)) n = (a : Nat) := by
  refine fidx_found ha (strongB_iff.2 (beats_strong hW ha h)) fun j hj => ?_
  cases hs : strongB (widM n (margM W)) n j with
  | false => rfl
  | true =>
    have h1 := strongB_iff.1 hs a ha
    have := beats_wid hW ha h (b := j) (by omega) (by omega)
    omega
theorem beats_best (hW : BOk W v n) (ha : a < n) (h : Beats W n a) : bestN (margM W) n = 2 ^ a := by
  have hA := marg_anti hW
  have hset : setR (margM W) n a = 2 ^ a := by
    apply Nat.eq_of_testBit_eq
    intro c
    rw [Bool.eq_iff_iff, setR_bit, Nat.testBit_two_pow, decide_eq_true_eq]
    constructor
    · intro hr
      induction hr with
      | here _ => rfl
      | step h1 h2 h3 ih =>
        subst ih
        rw [margM_eq hW ha h2] at h3
        rcases h _ h2 with e | h9
        · exact e
        · omega
    · rintro rfl; exact .here ha
  have hrch : ∀ x, x < n → Rch (margM W) n x a := fun x hx => by
    by_cases e : a = x
    · subst e; exact .here ha
    · refine .step (.here hx) ha ?_
      rw [hA x a hx ha, margM_eq hW ha hx]
      rcases h x hx with e' | h9
      · exact absurd e' e
      · omega
  have hbit : ∀ m, m ≤ n → (bstN (margM W) n m).testBit a = true := fun m => by
    induction m with
    | zero => intro _; show (2 ^ n - 1).testBit a = true; rw [Nat.testBit_two_pow_sub_one, decide_eq_true ha]
    | succ m ih =>
      intro hm
      rw [bstN]
      split
      · exact setR_bit.2 (hrch m (by omega))
      · exact ih (by omega)
  have hfin : ∀ m, a + 1 ≤ m → m ≤ n → bstN (margM W) n m = 2 ^ a := fun m => by
    induction m with
    | zero => intro h; omega
    | succ m ih =>
      intro h1 h2
      rw [bstN]
      rcases (by omega : m = a ∨ a + 1 ≤ m) with rfl | h3
      · rw [if_pos, hset]
        apply Nat.eq_of_testBit_eq
        intro i
        rw [testBit_sdiff, Nat.zero_testBit, hset, Nat.testBit_two_pow]
        by_cases e : m = i
        · subst e; rw [hbit m (by omega)]; simp
        · simp [e]
      · rw [ih h3 (by omega), if_neg]
        intro h0
        have : (sdiff (setR (margM W) n m) (2 ^ a)).testBit m = true := by
          rw [testBit_sdiff, setR_bit.2 (.here (by omega)), Nat.testBit_two_pow]
          simp; omega
        rw [h0, Nat.zero_testBit] at this
        cases this
  exact hfin n (by omega) (Nat.le_refl _)
theorem rdR_append (W : List (List Nat)) (x : Nat) : ∀ l r, rdR W x (l ++ r) = rdR W x l + rdR W x r
  | [], r => by simp [rdR]
  | y :: l, r => by show rdC W x y + rdR W x (l ++ r) = rdC W x y + rdR W x l + _; rw [rdR_append W x l r]; omega
theorem rdO_front (W : List (List Nat)) (a : Nat) : ∀ (l r : List Nat), (∀ x ∈ l, rdC W a x < rdC W x a) → rdO W (a :: (l ++ r)) + l.length ≤ rdO W (l ++ a :: r)
  | [], r, _ => by simp
  | x :: l, r, h => by
    have ih := rdO_front W a l r fun y hy => h y (List.mem_cons_of_mem _ hy)
    have hx := h x (List.mem_cons_self ..)
    have e1 : rdO W (a :: (x :: l ++ r)) = rdC W a x + rdR W a (l ++ r) + (rdR W x (l ++ r) + rdO W (l ++ r)) := rfl
    have e2 : rdO W (x :: l ++ a :: r) = rdR W x (l ++ a :: r) + rdO W (l ++ a :: r) := rfl
    have e3 : rdO W (a :: (l ++ r)) = rdR W a (l ++ r) + rdO W (l ++ r) := rfl
    have e4 : rdR W x (l ++ a :: r) = rdR W x l + (rdC W x a + rdR W x r) := by rw [rdR_append]; rfl
    have e5 := rdR_append W x l r
    rw [e1, e2, e4]
    rw [e3] at ih
    simp only [List.length_cons]
    omega
theorem beats_first (hW : BOk W v n) (ha : a < n) (h : Beats W n a) : (kemO W n).getD 0 0 = a := by
  have hWo : ∀ l ∈ W, Ord l n := fun l hl => by
    obtain ⟨i, hi, rfl⟩ := List.getElem_of_mem hl
    have := hW.rows i (by rw [← hW.len]; exact hi)
    rwa [List.getD_eq_getElem?_getD, List.getElem?_eq_getElem hi] at this
  have ho := (kemO_spec W n).1
  have hmem := (ho.mem a).2 ha
  obtain ⟨l, r, e⟩ := List.append_of_mem hmem
  have hperm : (a :: (l ++ r)).Perm (kemO W n) := by rw [e]; exact List.perm_middle.symm
  have hnd : (kemO W n).Nodup := ho.nodup
  have ho2 : Ord (a :: (l ++ r)) n := ⟨by rw [hperm.length_eq, ho.len], fun g => by rw [hperm.mem_iff]; exact ho.mem g⟩
  have hle := kemO_le W ho2
  rw [← rdO_eq, ← rdO_eq] at hle
  have hx : ∀ x ∈ l, rdC W a x < rdC W x a := fun x hx => by
    have hxn : x < n := (ho.mem x).1 (by rw [e]; simp [hx])
    have hne : a ≠ x := fun e9 => by
      subst e9
      rw [e, List.nodup_append] at hnd
      exact hnd.2.2 a hx a (by simp) rfl
    have h1 := (rdC_marg hWo ha hxn hne).2
    rcases h x hxn with e9 | h9
    · exact absurd e9 hne
    · omega
  have hfr := rdO_front W a l r hx
  rw [← e] at hfr
  have : l = [] := List.length_eq_zero_iff.1 (by omega)
  subst this
  rw [e]; rfl
end
end Go.Proofs.Ytejijddfepgnkaa
