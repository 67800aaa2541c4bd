/-
  Choosing in an order, plain: what its outcome is; nothing is better, nothing else is so, and no lie helps.
-/
import Derived.Test.YtilnbiaabhdfgaaChoosePlain
import Derived.Test.YtilnbiaabhdfgaaTtcSpec
namespace Go.Proofs.Ytilnbiaabhdfgaa
open Go.RowKit
set_option linter.unusedVariables false
set_option linter.unusedSimpArgs false

/-- Everyone gets a thing; whatever they like more somebody has who came before. -/
structure Cho (W : List (List Nat)) (n : Nat) (c r : Nat → Nat) : Prop where
  lt : ∀ i, i < n → c i < n
  inj : ∀ i j, i < n → j < n → c i = c j → i = j
  pre : ∀ i y, i < n → y < n → place (W.getD i []) y < place (W.getD i []) (c i) → ∃ j, j < n ∧ r j < r i ∧ c j = y

section
variable {W W' : List (List Nat)} {n : Nat} {c c' r x : Nat → Nat}
/-- Nothing is better. -/
theorem Cho.no_better (h : Cho W n c r) (hW : ∀ i, i < n → Ord (W.getD i []) n) (hlt : ∀ i, i < n → x i < n) (hinj : ∀ i j, i < n → j < n → x i = x j → i = j)
    (hw : ∀ i, i < n → place (W.getD i []) (x i) ≤ place (W.getD i []) (c i)) : ∀ i, i < n → x i = c i := by
  have key : ∀ m i, i < n → r i < m → x i = c i := by
    intro m
    induction m with
    | zero => intro i _ h; omega
    | succ m ih =>
      intro i hi hm
      apply Classical.byContradiction
      intro hne
      have h1 : place (W.getD i []) (x i) ≠ place (W.getD i []) (c i) := fun e => hne (place_inj (hW i hi) (hlt i hi) (h.lt i hi) e)
      have h2 := hw i hi
      obtain ⟨j, hj, hr, e⟩ := h.pre i (x i) hi (hlt i hi) (by omega)
      have := hinj j i hj hi (by rw [ih j hj (by omega)]; exact e)
      subst this
      omega
  exact fun i hi => key (r i + 1) i hi (by omega)
/-- Two who choose in the same order, and differ in one list at most: before that one all is the same, and that one gets nothing better by it. -/
theorem Cho.before (h : Cho W n c r) (h' : Cho W' n c' r) (hW : ∀ i, i < n → Ord (W.getD i []) n) {m : Nat} (he : ∀ j, j < n → r j < m → W'.getD j [] = W.getD j []) (hr : ∀ i j, i < n → j < n → r i = r j → i = j) :
    ∀ i, i < n → r i < m → c' i = c i := by
  have key : ∀ q i, i < n → r i < q → r i < m → c' i = c i := by
    intro q
    induction q with
    | zero => intro i _ h; omega
    | succ q ih =>
      intro i hi hq hm
      apply Classical.byContradiction
      intro hne
      have hne' : place (W.getD i []) (c' i) ≠ place (W.getD i []) (c i) := fun e => hne (place_inj (hW i hi) (h'.lt i hi) (h.lt i hi) e)
      rcases Nat.lt_or_gt_of_ne hne' with hlt | hgt
      · obtain ⟨j, hj, hrj, e⟩ := h.pre i (c' i) hi (h'.lt i hi) hlt
        have := h'.inj j i hj hi (by rw [ih j hj (by omega) (by omega)]; exact e)
        subst this
        omega
      · obtain ⟨j, hj, hrj, e⟩ := h'.pre i (c i) hi (h.lt i hi) (by rw [he i hi hm]; exact hgt)
        have := h.inj j i hj hi (by rw [← ih j hj (by omega) (by omega)]; exact e)
        subst this
        omega
  exact fun i hi hm => key (r i + 1) i hi (by omega) hm
theorem Cho.honest (h : Cho W n c r) (h' : Cho W' n c' r) (hW : ∀ i, i < n → Ord (W.getD i []) n) (hr : ∀ i j, i < n → j < n → r i = r j → i = j) {i : Nat} (hi : i < n) (he : ∀ j, j < n → j ≠ i → W'.getD j [] = W.getD j []) :
    place (W.getD i []) (c i) ≤ place (W.getD i []) (c' i) := by
  apply Classical.byContradiction
  intro hc
  obtain ⟨j, hj, hrj, e⟩ := h.pre i (c' i) hi (h'.lt i hi) (by omega)
  have := h.before h' hW (m := r i) (fun j hj hr => he j hj (fun e => by subst e; omega)) hr j hj hrj
  have := h'.inj j i hj hi (by rw [this]; exact e)
  subst this
  omega
theorem Cho.unique (h : Cho W n c r) (h' : Cho W n c' r) (hW : ∀ i, i < n → Ord (W.getD i []) n) (hr : ∀ i j, i < n → j < n → r i = r j → i = j) : ∀ i, i < n → c' i = c i :=
  fun i hi => h.before h' hW (m := r i + 1) (fun _ _ _ => rfl) hr i hi (by omega)
end

/-- Those who have chosen (p), and what is left. -/
structure ChSt (W : List (List Nat)) (n : Nat) (o p : List Nat) (left : Nat) (out : Nat → Nat) : Prop where
  bits : ∀ g, left.testBit g = true ↔ g < n ∧ ∀ j ∈ p, out j ≠ g
  lt : ∀ i ∈ p, out i < n
  inj : ∀ i ∈ p, ∀ j ∈ p, out i = out j → i = j
  pre : ∀ i ∈ p, ∀ y, y < n → place (W.getD i []) y < place (W.getD i []) (out i) → ∃ j ∈ p, place o j < place o i ∧ out j = y
  card : cardF n left + p.length = n

theorem chooseF_st {W : List (List Nat)} {n : Nat} {o : List Nat} (hW : ∀ i, i < n → Ord (W.getD i []) n) (ho : Ord o n) : ∀ (rest p : List Nat) (left : Nat) (out : Nat → Nat), o = p ++ rest → ChSt W n o p left out →
    ∃ left', ChSt W n o o left' (chooseF W rest left out) := by
  intro rest
  induction rest with
  | nil =>
    intro p left out e h
    rw [List.append_nil] at e
    subst e
    exact ⟨left, h⟩
  | cons i rest ih =>
    intro p left out e h
    have hlen : p.length + (rest.length + 1) = n := by have := ho.len; rw [e] at this; simpa using this
    have hi : i < n := (ho.mem i).1 (by rw [e]; simp)
    have hnd := ho.part.nd
    rw [e, List.nodup_append] at hnd
    have hip : i ∉ p := fun hm => hnd.2.2 i hm i (by simp) rfl
    obtain ⟨g0, hg0, hgb0⟩ := cardF_pos (n := n) (M := left) (by have := h.card; omega)
    have hri := hW i hi
    have hsw : ∃ g ∈ W.getD i [], left.testBit g = true := ⟨g0, (hri.mem _).2 hg0, hgb0⟩
    obtain ⟨hbm1, hbm2⟩ := best_mem hsw
    have hbn := (hri.mem _).1 hbm1
    have hpi : place o i = p.length := by
      have h1 := place_lt (l := o) (g := i) (by rw [e]; simp)
      rw [ho.len] at h1
      refine ho.inj _ _ h1.1 (by omega) ?_
      rw [h1.2, e]
      simp [List.getD_eq_getElem?_getD]
    have hpj : ∀ j ∈ p, place o j < p.length := fun j hj => by
      obtain ⟨k, hk, e2⟩ := List.getElem_of_mem hj
      have : o.getD k 0 = j := by rw [e, List.getD_eq_getElem?_getD, List.getElem?_append_left hk, List.getElem?_eq_getElem hk]; exact e2
      have := place_first (l := o) (g := j) (i := k) (by rw [ho.len]; omega) this
      omega
    simp only [chooseF]
    refine ih (p ++ [i]) _ _ (by rw [e]; simp) ?_
    have hb := h.bits (best (W.getD i []) left)
    rw [hbm2] at hb
    have hb := (hb.1 rfl).2
    have hne : ∀ j ∈ p, j ≠ i := fun j hj e => hip (e ▸ hj)
    refine ⟨fun g => ?_, fun j hj => ?_, fun j hj k hk e2 => ?_, fun j hj y hy hp => ?_, ?_⟩
    · rw [testBit_sdiff, Nat.testBit_two_pow, Bool.and_eq_true, h.bits]
      simp only [Bool.not_eq_true', decide_eq_false_iff_not]
      constructor
      · rintro ⟨⟨h1, h2⟩, h3⟩
        refine ⟨h1, fun j hj => ?_⟩
        rcases List.mem_append.1 hj with hj | hj
        · rw [if_neg (hne j hj)]; exact h2 j hj
        · simp only [List.mem_singleton] at hj; rw [if_pos hj]; exact h3
      · rintro ⟨h1, h2⟩
        refine ⟨⟨h1, fun j hj => ?_⟩, ?_⟩
        · have := h2 j (List.mem_append_left _ hj); rwa [if_neg (hne j hj)] at this
        · have := h2 i (by simp); rwa [if_pos rfl] at this
    · rcases List.mem_append.1 hj with hj | hj
      · rw [if_neg (hne j hj)]; exact h.lt j hj
      · simp only [List.mem_singleton] at hj; rw [if_pos hj]; exact hbn
    · rcases List.mem_append.1 hj with hj | hj
      · rw [if_neg (hne j hj)] at e2
        rcases List.mem_append.1 hk with hk | hk
        · rw [if_neg (hne k hk)] at e2; exact h.inj j hj k hk e2
        · simp only [List.mem_singleton] at hk; rw [if_pos hk] at e2; exact absurd e2 (hb j hj)
      · simp only [List.mem_singleton] at hj
        rw [if_pos hj] at e2
        rcases List.mem_append.1 hk with hk | hk
        · rw [if_neg (hne k hk)] at e2; exact absurd e2.symm (hb k hk)
        · simp only [List.mem_singleton] at hk; rw [hj, hk]
    · rcases List.mem_append.1 hj with hj | hj
      · rw [if_neg (hne j hj)] at hp
        obtain ⟨k, hk, h1, h2⟩ := h.pre j hj y hy hp
        exact ⟨k, List.mem_append_left _ hk, h1, by rw [if_neg (hne k hk)]; exact h2⟩
      · simp only [List.mem_singleton] at hj
        subst hj
        rw [if_pos rfl] at hp
        have hT := best_before hsw hp
        rw [(place_lt ((hri.mem y).2 hy)).2] at hT
        have : ∃ k ∈ p, out k = y := by
          apply Classical.byContradiction
          intro hno
          rw [(h.bits y).2 ⟨hy, fun k hk e => hno ⟨k, hk, e⟩⟩] at hT
          cases hT
        obtain ⟨k, hk, e2⟩ := this
        exact ⟨k, List.mem_append_left _ hk, by rw [hpi]; exact hpj k hk, by rw [if_neg (hne k hk)]; exact e2⟩
    · have := cardF_drop hbn hbm2
      have := h.card
      simp only [List.length_append, List.length_singleton]
      omega

theorem chosen_cho {W : List (List Nat)} {n : Nat} {o : List Nat} (hlen : W.length = n) (hW : ∀ i, i < n → Ord (W.getD i []) n) (ho : Ord o n) : Cho W n (chosen W o) (place o) := by
  obtain ⟨left, h⟩ := chooseF_st hW ho o [] (2 ^ n - 1) (fun _ => 0) rfl ⟨fun g => by rw [full_bit]; simp, fun i hi => (by cases hi), fun i hi => (by cases hi), fun i hi => (by cases hi), by rw [cardF_full]; rfl⟩
  have e : chosen W o = chooseF W o (2 ^ n - 1) (fun _ => 0) := by unfold chosen; rw [hlen]
  rw [← e] at h
  exact ⟨fun i hi => h.lt i ((ho.mem i).2 hi), fun i j hi hj e => h.inj i ((ho.mem i).2 hi) j ((ho.mem j).2 hj) e, fun i y hi hy hp => by
    obtain ⟨j, hj, h1, h2⟩ := h.pre i ((ho.mem i).2 hi) y hy hp
    exact ⟨j, (ho.mem j).1 hj, h1, h2⟩⟩
/-- Places in an order are different. -/
theorem place_ord {o : List Nat} {n : Nat} (ho : Ord o n) : ∀ i j, i < n → j < n → place o i = place o j → i = j := fun i j hi hj e => place_inj ho hi hj e

/-- What nothing is better than, choosing in some order gives. -/
theorem pareto_order {W : List (List Nat)} {n : Nat} {o : List Nat} (hlen : W.length = n) (hW : ∀ i, i < n → Ord (W.getD i []) n) (ho : Ord o n)
    (hno : ∀ x : Nat → Nat, (∀ i, i < n → x i < n) → (∀ i j, i < n → j < n → x i = x j → i = j) → (∀ i, i < n → place (W.getD i []) (x i) ≤ place (W.getD i []) (o.getD i 0)) → ∀ i, i < n → x i = o.getD i 0) :
    ∃ l, Ord l n ∧ ∀ i, i < n → chosen W l i = o.getD i 0 := by
  have hM : Mkt W o n := ⟨hlen, fun i hi => ⟨(hW i hi).len, (hW i hi).mem⟩, ho.len, ho.mem, ho.inj⟩
  have hg := hM.gen
  have hown := hM.own_law
  have ht := hno (traded W o).1 hg.lt hg.inj (fun i hi => (hown i hi).2)
  obtain ⟨r, hr⟩ : ∃ r, r = (traded W o).2 := ⟨_, rfl⟩
  have hle : ∃ le : Nat → Nat → Bool, le = fun a b => decide (r a ≤ r b) := ⟨_, rfl⟩
  obtain ⟨le, hle⟩ := hle
  have hperm := List.mergeSort_perm (List.range n) le
  have hsort := List.pairwise_mergeSort (le := le) (fun a b c h1 h2 => by subst hle; simp only [decide_eq_true_eq] at *; omega) (fun a b => by subst hle; simp only [Bool.or_eq_true, decide_eq_true_eq]; omega) (List.range n)
  generalize (List.range n).mergeSort le = l at *
  have hl : Ord l n := ⟨by rw [hperm.length_eq]; simp, fun g => by rw [hperm.mem_iff]; simp⟩
  refine ⟨l, hl, fun i hi => ?_⟩
  have hc : Cho W n (fun i => o.getD i 0) (place l) := by
    refine ⟨fun i hi => ho.getD_lt hi, ho.inj, fun i y hi hy hp => ?_⟩
    obtain ⟨k1, k2⟩ := place_lt ((ho.mem y).2 hy)
    rw [ho.len] at k1
    have hrk := hg.pre i (place o y) hi k1 (by rw [k2, ht i hi]; exact hp)
    refine ⟨place o y, k1, ?_, k2⟩
    rw [← hr] at hrk
    apply Classical.byContradiction
    intro hge
    obtain ⟨a1, a2⟩ := place_lt ((hl.mem i).2 hi)
    obtain ⟨b1, b2⟩ := place_lt ((hl.mem (place o y)).2 k1)
    rw [List.pairwise_iff_getElem] at hsort
    by_cases e : place l i = place l (place o y)
    · have := place_inj hl hi k1 e
      rw [← this] at hrk
      omega
    · have := hsort _ _ a1 b1 (by omega)
      rw [List.getD_eq_getElem?_getD, List.getElem?_eq_getElem a1] at a2
      rw [List.getD_eq_getElem?_getD, List.getElem?_eq_getElem b1] at b2
      simp only [Option.getD_some] at a2 b2
      rw [a2, b2, hle] at this
      simp only [decide_eq_true_eq] at this
      omega
  exact hc.unique (chosen_cho hlen hW hl) hW (place_ord hl) i hi
end Go.Proofs.Ytilnbiaabhdfgaa
