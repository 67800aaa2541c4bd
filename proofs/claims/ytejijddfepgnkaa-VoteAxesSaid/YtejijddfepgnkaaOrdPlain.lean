/-
  Orders with the least disagreement, plain: none has less; at least the sum of the lesser numbers; just that where majorities make an order.
-/
import Derived.Test.YtejijddfepgnkaaWinV
import Derived.Test.YtejijddfepgnkaaVPlain
namespace Go.Proofs.Ytejijddfepgnkaa
open Go.RowKit
set_option linter.unusedVariables false
set_option linter.unusedSimpArgs false

/-- No order has less. -/
theorem kem_le (W : List (List Nat)) : ∀ (xs : List (List Nat)) (s : Option (List Nat) × Nat) (o : List Nat) (d : Nat), (runJ (kemSt W) xs s).1 = (some o, d) → (∀ x ∈ xs, d ≤ disN W x) ∧ (s.1 ≠ none → d ≤ s.2)
  | [], s, o, d, h => ⟨fun x hx => (nomatch hx), fun _ => by
      have : s = (some o, d) := h
      rw [this]; exact Nat.le_refl _⟩
  | x :: xs, s, o, d, h => by
    have e : runJ (kemSt W) (x :: xs) s = runJ (kemSt W) xs (kemSt W s x).1 := rfl
    rw [e] at h
    obtain ⟨h1, h2⟩ := kem_le W xs _ o d h
    by_cases hc : s.1 = none ∨ disN W x < s.2
    · have e1 : (kemSt W s x).1 = (some x, disN W x) := by simp only [kemSt]; rw [if_pos hc]
      rw [e1] at h2
      have h3 := h2 (by simp)
      refine ⟨fun y hy => ?_, fun hs => ?_⟩
      · rcases List.mem_cons.1 hy with rfl | hy
        · exact h3
        · exact h1 y hy
      · rcases hc with hc | hc
        · exact absurd hc hs
        · simp only at h3; omega
    · have e1 : (kemSt W s x).1 = s := by simp only [kemSt]; rw [if_neg hc]
      rw [e1] at h2
      have hs : s.1 ≠ none := fun hs => hc (.inl hs)
      have h3 := h2 hs
      refine ⟨fun y hy => ?_, fun _ => h3⟩
      rcases List.mem_cons.1 hy with rfl | hy
      · have : ¬ disN W y < s.2 := fun hd => hc (.inr hd)
        omega
      · exact h1 y hy
theorem kemO_le (W : List (List Nat)) {n : Nat} {o : List Nat} (ho : Ord o n) : disN W (kemO W n) ≤ disN W o :=
  (kem_le W (ordsN n) (none, 0) _ _ (kemO_spec W n).2).1 o (mem_ordsN.2 ho)

/-! ### sums over pairs -/
/-- Over all pairs of a list. -/
def pS (g : Nat → Nat → Nat) : List Nat → Nat
  | [] => 0
  | x :: r => (r.map (g x)).sum + pS g r
theorem sum_perm {l l' : List Nat} (h : l.Perm l') : l.sum = l'.sum := by
  induction h with
  | nil => rfl
  | cons x _ ih => simp [ih]
  | swap x y l => simp; omega
  | trans _ _ h1 h2 => rw [h1, h2]
theorem pS_perm {g : Nat → Nat → Nat} (hg : ∀ a b, g a b = g b a) {l l' : List Nat} (h : l.Perm l') : pS g l = pS g l' := by
  induction h with
  | nil => rfl
  | cons x h ih => simp only [pS, ih]; rw [sum_perm (h.map (g x))]
  | swap x y l =>
    simp only [pS, List.map_cons, List.sum_cons]
    rw [hg y x]; omega
  | trans _ _ h1 h2 => rw [h1, h2]
theorem pS_le {g g' : Nat → Nat → Nat} : ∀ {l : List Nat}, (∀ x ∈ l, ∀ y ∈ l, x ≠ y → g x y ≤ g' x y) → l.Nodup → pS g l ≤ pS g' l
  | [], _, _ => Nat.le_refl _
  | x :: r, h, hd => by
    have hd' := List.nodup_cons.1 hd
    have h1 := pS_le (l := r) (fun a ha b hb => h a (List.mem_cons_of_mem _ ha) b (List.mem_cons_of_mem _ hb)) hd'.2
    have h2 : ∀ (r' : List Nat), (∀ y ∈ r', g x y ≤ g' x y) → (r'.map (g x)).sum ≤ (r'.map (g' x)).sum := by
      intro r'
      induction r' with
      | nil => intro _; exact Nat.le_refl _
      | cons y r' ih =>
        intro h9
        have h3 := h9 y (List.mem_cons_self ..)
        have h4 := ih (fun z hz => h9 z (List.mem_cons_of_mem _ hz))
        simp only [List.map_cons, List.sum_cons]; omega
    have h3 := h2 r (fun y hy => h x (List.mem_cons_self ..) y (List.mem_cons_of_mem _ hy) (fun e => hd'.1 (e ▸ hy)))
    simp only [pS]; omega
theorem pS_eq {g g' : Nat → Nat → Nat} {l : List Nat} (h : l.Pairwise fun x y => g x y = g' x y) : pS g l = pS g' l := by
  induction h with
  | nil => rfl
  | cons hx _ ih =>
    simp only [pS, ih]
    rw [List.map_congr_left hx]
theorem rdO_pS (W : List (List Nat)) : ∀ o, rdO W o = pS (rdC W) o
  | [] => rfl
  | x :: r => by
    rw [rdO, pS, rdO_pS W r]
    congr 1
    have : ∀ r', rdR W x r' = (r'.map (rdC W x)).sum := by
      intro r'
      induction r' with
      | nil => rfl
      | cons y r' ih => simp only [rdR, List.map_cons, List.sum_cons, ih]
    exact this r
/-- The lesser number of ballots. -/
def les (W : List (List Nat)) (a b : Nat) : Nat := min (rdC W a b) (rdC W b a)
theorem les_symm (W : List (List Nat)) (a b : Nat) : les W a b = les W b a := Nat.min_comm _ _
theorem ord_perm {o : List Nat} {n : Nat} (ho : Ord o n) : o.Perm (List.range n) := by
  refine (List.perm_ext_iff_of_nodup ho.part.nd List.nodup_range).2 fun a => ?_
  rw [ho.mem, List.mem_range]
theorem dis_ge (W : List (List Nat)) {o : List Nat} {n : Nat} (ho : Ord o n) : pS (les W) (List.range n) ≤ disN W o := by
  rw [← pS_perm (les_symm W) (ord_perm ho), ← rdO_eq, rdO_pS]
  exact pS_le (fun x _ y _ _ => Nat.min_le_left _ _) ho.part.nd

/-! ### margins and numbers -/
theorem rdC_marg {W : List (List Nat)} {n : Nat} (hW : ∀ l ∈ W, Ord l n) {a b : Nat} (ha : a < n) (hb : b < n) (hab : a ≠ b) : rdC W a b + rdC W b a = W.length ∧ marg W a b = (rdC W b a : Int) - (rdC W a b : Int) := by
  induction W with
  | nil => simp [rdC, marg]
  | cons l W ih =>
    obtain ⟨h1, h2⟩ := ih (fun l' hl' => hW l' (List.mem_cons_of_mem _ hl'))
    have hl := hW l (List.mem_cons_self ..)
    have hne : place l a ≠ place l b := fun e => hab (place_inj hl ha hb e)
    rw [marg_cons]
    simp only [rdC, List.countP_cons, decide_eq_true_eq, List.length_cons, mark] at h1 h2 ⊢
    rcases Nat.lt_or_ge (place l a) (place l b) with h | h
    · have h' : ¬ place l b < place l a := by omega
      simp only [if_pos h, if_neg h']; omega
    · have h' : place l b < place l a := by omega
      have h'' : ¬ place l a < place l b := by omega
      simp only [if_pos h', if_neg h'']; omega

/-! ### majorities that make an order -/
theorem place_ins {B : Nat → Nat → Prop} {x : Nat} : ∀ (l : List Nat), l.Pairwise B → (∀ y ∈ l, B x y ∨ B y x) → (∀ y ∈ l, ∀ z ∈ l, B x y → B y z → B x z) → (∀ y ∈ l, ∀ z ∈ l, B y z → B z x → B y x) → ∃ l' : List Nat, l'.Pairwise B ∧ l'.Perm (x :: l)
  | [], _, _, _, _ => ⟨[x], by simp, List.Perm.refl _⟩
  | y :: l, hp, ht, h1, h2 => by
    obtain ⟨hy, hp'⟩ := List.pairwise_cons.1 hp
    rcases ht y (List.mem_cons_self ..) with hxy | hyx
    · refine ⟨x :: y :: l, List.pairwise_cons.2 ⟨fun z hz => ?_, hp⟩, List.Perm.refl _⟩
      rcases List.mem_cons.1 hz with rfl | hz
      · exact hxy
      · exact h1 y (List.mem_cons_self ..) z (List.mem_cons_of_mem _ hz) hxy (hy z hz)
    · obtain ⟨l', g1, g2⟩ := place_ins l hp' (fun z hz => ht z (List.mem_cons_of_mem _ hz)) (fun a ha b hb => h1 a (List.mem_cons_of_mem _ ha) b (List.mem_cons_of_mem _ hb)) (fun a ha b hb => h2 a (List.mem_cons_of_mem _ ha) b (List.mem_cons_of_mem _ hb))
      refine ⟨y :: l', List.pairwise_cons.2 ⟨fun z hz => ?_, g1⟩, (List.Perm.cons y g2).trans (List.Perm.swap x y l)⟩
      rcases List.mem_cons.1 (g2.mem_iff.1 hz) with rfl | hz
      · exact hyx
      · exact hy z hz
theorem sorted_all {B : Nat → Nat → Prop} : ∀ (l : List Nat), l.Nodup → (∀ a ∈ l, ∀ b ∈ l, a ≠ b → B a b ∨ B b a) → (∀ a ∈ l, ∀ b ∈ l, ∀ c ∈ l, B a b → B b c → B a c) → ∃ l' : List Nat, l'.Pairwise B ∧ l'.Perm l
  | [], _, _, _ => ⟨[], List.Pairwise.nil, List.Perm.refl _⟩
  | x :: l, hd, ht, htr => by
    have hd' := List.nodup_cons.1 hd
    obtain ⟨l', h1, h2⟩ := sorted_all l hd'.2 (fun a ha b hb => ht a (List.mem_cons_of_mem _ ha) b (List.mem_cons_of_mem _ hb)) (fun a ha b hb c hc => htr a (List.mem_cons_of_mem _ ha) b (List.mem_cons_of_mem _ hb) c (List.mem_cons_of_mem _ hc))
    have hm : ∀ y ∈ l', y ∈ x :: l := fun y hy => List.mem_cons_of_mem _ (h2.mem_iff.1 hy)
    have hx := List.mem_cons_self (a := x) (l := l)
    obtain ⟨l2, g1, g2⟩ := place_ins (B := B) (x := x) l' h1 (fun y hy => ht x hx y (hm y hy) (fun e => hd'.1 (e ▸ h2.mem_iff.1 hy)))
      (fun y hy z hz => htr x hx y (hm y hy) z (hm z hz)) (fun y hy z hz => htr y (hm y hy) z (hm z hz) x hx)
    exact ⟨l2, g1, g2.trans (List.Perm.cons x h2)⟩
/-- Without circles and without ties the least disagreement is the sum of the lesser numbers. -/
theorem dis_eq {W : List (List Nat)} {n : Nat} (hW : ∀ l ∈ W, Ord l n) (ht : ∀ a b, a < n → b < n → a ≠ b → marg W a b ≠ 0) (hc : ∀ a b c, a < n → b < n → c < n → ¬ (0 < marg W a b ∧ 0 < marg W b c ∧ 0 < marg W c a)) : disN W (kemO W n) = pS (les W) (List.range n) := by
  have hrev : ∀ a b, a < n → b < n → a ≠ b → marg W a b = - marg W b a := fun a b ha hb hab => by
    have h1 := (rdC_marg hW ha hb hab).2
    have h2 := (rdC_marg hW hb ha (fun e => hab e.symm)).2
    omega
  have hself : ∀ a, marg W a a = 0 := fun a => by
    have : ∀ W' : List (List Nat), marg W' a a = 0 := by
      intro W'
      induction W' with
      | nil => rfl
      | cons l W' ih => rw [marg_cons, ih]; simp [mark]
    exact this W
  obtain ⟨o, h1, h2⟩ := sorted_all (B := fun a b => 0 < marg W a b) (List.range n) List.nodup_range
    (fun a ha b hb hab => by
      have ha' := List.mem_range.1 ha
      have hb' := List.mem_range.1 hb
      have := ht a b ha' hb' hab
      have := hrev a b ha' hb' hab
      omega)
    (fun a ha b hb c hc' h1 h2 => by
      have ha' := List.mem_range.1 ha
      have hb' := List.mem_range.1 hb
      have hc'' := List.mem_range.1 hc'
      by_cases hac : a = c
      · subst hac
        by_cases hab : a = b
        · subst hab; exact h1
        · have := hrev a b ha' hb' hab; omega
      · have h3 := ht a c ha' hc'' hac
        have h4 := hrev a c ha' hc'' hac
        have h5 := hc a b c ha' hb' hc''
        omega)
  have ho : Ord o n := ⟨by rw [h2.length_eq, List.length_range], fun g => by rw [h2.mem_iff, List.mem_range]⟩
  have h3 : disN W o = pS (les W) (List.range n) := by
    rw [← pS_perm (les_symm W) h2, ← rdO_eq, rdO_pS]
    refine pS_eq ?_
    have h4 : o.Pairwise fun a b => a ≠ b := List.nodup_iff_pairwise_ne.1 ho.part.nd
    have h5 := List.pairwise_iff_getElem.1 h1
    have h6 := List.pairwise_iff_getElem.1 h4
    refine List.pairwise_iff_getElem.2 fun i j hi hj hij => ?_
    have g1 := h5 i j hi hj hij
    have g2 := h6 i j hi hj hij
    have g3 := (rdC_marg hW ((ho.mem _).1 (List.getElem_mem hi)) ((ho.mem _).1 (List.getElem_mem hj)) g2).2
    unfold les
    omega
  have h4 := kemO_le W ho
  have h5 := dis_ge W (kemO_spec W n).1
  omega

theorem pS_snoc (g : Nat → Nat → Nat) (x : Nat) : ∀ l : List Nat, pS g (l ++ [x]) = pS g l + (l.map fun y => g y x).sum
  | [] => by simp [pS]
  | y :: l => by
    simp only [List.cons_append, pS, List.map_append, List.map_cons, List.map_nil, List.sum_append, List.sum_cons, List.sum_nil]
    rw [pS_snoc g x l]; omega
theorem pS_range_succ (g : Nat → Nat → Nat) (a : Nat) : pS g (List.range (a + 1)) = pS g (List.range a) + ((List.range a).map fun y => g y a).sum := by rw [List.range_succ, pS_snoc]
theorem col_succ (g : Nat → Nat → Nat) (a b : Nat) : ((List.range (b + 1)).map fun y => g y a).sum = ((List.range b).map fun y => g y a).sum + g b a := by rw [List.range_succ]; simp
theorem les_marg {W : List (List Nat)} {n : Nat} (hW : ∀ l ∈ W, Ord l n) {a b : Nat} (ha : a < n) (hb : b < n) (hab : a ≠ b) : ((les W b a : Nat) : Int) = ((W.length : Int) - max (marg W a b) (-(marg W a b))) / 2 := by
  obtain ⟨h1, h2⟩ := rdC_marg hW ha hb hab
  unfold les
  omega
theorem les_le {W : List (List Nat)} (a b : Nat) : les W a b ≤ W.length := Nat.le_trans (Nat.min_le_left _ _) List.countP_le_length
theorem col_le {W : List (List Nat)} (a : Nat) : ∀ b, ((List.range b).map fun y => les W y a).sum ≤ b * W.length
  | 0 => by simp
  | b + 1 => by
    rw [col_succ, Nat.succ_mul]
    have := col_le (W := W) a b
    have := les_le (W := W) b a
    omega
theorem pS_bd {W : List (List Nat)} : ∀ a, pS (les W) (List.range a) ≤ a * a * W.length
  | 0 => by simp [pS]
  | a + 1 => by
    rw [pS_range_succ]
    have h1 := pS_bd (W := W) a
    have h2 := col_le (W := W) a a
    have h3 : (a + 1) * (a + 1) * W.length = a * a * W.length + (2 * a + 1) * W.length := by rw [← Nat.add_mul]; congr 1; rw [Nat.add_mul, Nat.mul_add]; omega
    have h4 : a * W.length ≤ (2 * a + 1) * W.length := Nat.mul_le_mul_right _ (by omega)
    omega
end Go.Proofs.Ytejijddfepgnkaa
