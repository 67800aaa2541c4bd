/-
  Trading from all first outcomes has the chances of choosing in all orders.
-/
import Derived.Test.YtilnbiaabhdfgaaRename
import Derived.Test.YtilnbiaabhdfgaaEqualPlain
import Derived.Test.YtilnbiaabhdfgaaTallyApi
namespace Go.Proofs.Ytilnbiaabhdfgaa
open Go.RowKit
set_option linter.unusedVariables false
set_option linter.unusedSimpArgs false

/-- A proposition as a Bool. -/
noncomputable def bdec (p : Prop) : Bool := @decide p (Classical.propDecidable p)
theorem bdec_iff {p : Prop} : bdec p = true ↔ p := @decide_eq_true_iff p (Classical.propDecidable p)
theorem TtcGen.unique {W : List (List Nat)} {o : List Nat} {n : Nat} {t r t' r' : Nat → Nat} (hW : WOk W n) (ho : Ord o n) (h : TtcGen W o n t r) (h' : TtcGen W o n t' r') : ∀ i, i < n → t i = t' i := by
  have hrow : ∀ i, i < n → (W.map fun l => l.map (place o)).getD i [] = (W.getD i []).map (place o) := fun i hi => by
    have hl := hW.len
    simp [List.getD_eq_getElem?_getD, hl, hi]
  have mk : ∀ {t r : Nat → Nat}, TtcGen W o n t r → Ttc (W.map fun l => l.map (place o)) n (fun i => place o (t i)) r := fun {t r} h => by
    refine ⟨fun i hi => (at_place ho (h.lt i hi)).1, fun i j hi hj e => h.inj i j hi hj (place_inj ho (h.lt i hi) (h.lt j hj) e), fun i hi => ?_, fun i y hi hy hlt => ?_⟩
    · exact h.same i _ hi (at_place ho (h.lt i hi)).1 (at_place ho (h.lt i hi)).2
    · rw [hrow i hi, place_map ho (hW.rows i hi) hy, place_map ho (hW.rows i hi) (at_place ho (h.lt i hi)).1, (at_place ho (h.lt i hi)).2] at hlt
      exact h.pre i y hi hy hlt
  intro i hi
  have := (mk h).unique (mk h') (fun j hj => by rw [hrow j hj]; exact again_ord ho (hW.rows j hj)) i hi
  exact place_inj ho (h.lt i hi) (h'.lt i hi) this

/-- i likes better what j gets. -/
def Env (W : List (List Nat)) (u : List Nat) (i j : Nat) : Prop := place (W.getD i []) (u.getD j 0) < place (W.getD i []) (u.getD i 0)
section
variable {W : List (List Nat)} {n : Nat} {u : List Nat} (hW : WOk W n) (hu : Ord u n)
include hW hu
theorem choose_iff {e : List Nat} (he : Ord e n) : chooseN W e = u ↔ ∀ i j, i < n → j < n → Env W u i j → place e j < place e i := by
  constructor
  · rintro rfl i j hi hj hx
    unfold Env at hx
    rw [chooseN_at hW e hi, chooseN_at hW e hj] at hx
    have hc := hW.cho he
    obtain ⟨k, hk, h1, h2⟩ := hc.pre i _ hi (hc.lt j hj) hx
    have := hc.inj k j hk hj h2
    subst this; exact h1
  · intro h
    have hc : Cho W n (fun i => u.getD i 0) (place e) := ⟨fun i hi => hu.getD_lt hi, fun i j hi hj e => hu.inj i j hi hj e, fun i y hi hy hlt => by
      obtain ⟨h1, h2⟩ := at_place hu hy
      exact ⟨place u y, h1, h i _ hi h1 (by unfold Env; rw [h2]; exact hlt), h2⟩⟩
    apply ord_ext (chooseN_ord hW he).len hu.len
    intro i hi
    rw [chooseN_at hW e hi]
    exact hc.unique (hW.cho he) hW.rows (place_ord he) i hi
theorem given_iff {o : List Nat} (ho : Ord o n) : givenF W o = u ↔ ∃ r : Nat → Nat, (∀ i, i < n → r (place o (u.getD i 0)) = r i) ∧ ∀ i j, i < n → j < n → Env W u i j → r j < r i := by
  have hg := (hW.mkt ho).gen
  have hat : ∀ i, i < n → (givenF W o).getD i 0 = (traded W o).1 i := fun i hi => by rw [givenF, listF_getD _ _ (by rw [hW.len]; exact hi)]
  constructor
  · rintro rfl
    refine ⟨(traded W o).2, fun i hi => ?_, fun i j hi hj hx => ?_⟩
    · rw [hat i hi]
      exact hg.same i _ hi (at_place ho (hg.lt i hi)).1 (at_place ho (hg.lt i hi)).2
    · unfold Env at hx
      rw [hat i hi, hat j hj] at hx
      have h1 := at_place ho (hg.lt j hj)
      have := hg.pre i _ hi h1.1 (by rw [h1.2]; exact hx)
      rwa [hg.same j _ hj h1.1 h1.2] at this
  · rintro ⟨r, h1, h2⟩
    have hg' : TtcGen W o n (fun i => u.getD i 0) r := by
      refine ⟨fun i hi => hu.getD_lt hi, fun i j hi hj e => hu.inj i j hi hj e, fun i k hi hk e => ?_, fun i k hi hk hlt => ?_⟩
      · have : place o (u.getD i 0) = k := by rw [← e]; exact place_at ho hk
        rw [← this]; exact h1 i hi
      · have hok := ho.getD_lt hk
        obtain ⟨h3, h4⟩ := at_place hu hok
        have := h2 i _ hi h3 (by unfold Env; rw [h4]; exact hlt)
        have h5 := h1 _ h3
        rw [h4, place_at ho hk] at h5
        rw [h5]; exact this
    apply ord_ext (by rw [givenF, listF_len, hW.len]) hu.len
    intro i hi
    rw [hat i hi]
    exact TtcGen.unique hW ho hg hg' i hi
/-- What trading gives comes by choosing, too. -/
theorem some_order {r : Nat → Nat} (h2 : ∀ i j, i < n → j < n → Env W u i j → r j < r i) : ∃ d, Ord d n ∧ chooseN W d = u := by
  rcases better_or_order hW hu with ⟨_, l, hl⟩ | ⟨⟨a, ha⟩, _⟩
  · exact ⟨l, (orderN_some hl)⟩
  · exfalso
    obtain ⟨hao, him⟩ := betterN_some ha
    obtain ⟨hle, i, hi, hlt⟩ := impr_full.1 him
    have key : ∀ m i, i < n → r i < m → a.getD i 0 = u.getD i 0 := by
      intro m
      induction m with
      | zero => intro i _ h; omega
      | succ m ih =>
        intro i hi hr
        apply Classical.byContradiction
        intro hne
        have h3 : place (W.getD i []) (a.getD i 0) < place (W.getD i []) (u.getD i 0) := by
          have := hle i hi
          rcases Nat.lt_or_ge (place (W.getD i []) (a.getD i 0)) (place (W.getD i []) (u.getD i 0)) with h | h
          · exact h
          · exact absurd (place_inj (hW.rows i hi) (hao.getD_lt hi) (hu.getD_lt hi) (by omega)) hne
        obtain ⟨h4, h5⟩ := at_place hu (hao.getD_lt hi)
        have h6 := h2 i _ hi h4 (by unfold Env; rw [h5]; exact h3)
        have h7 := ih _ h4 (by omega)
        rw [h5] at h7
        have := hao.inj _ _ h4 hi h7
        rw [this] at h6
        omega
    have := key (r i + 1) i hi (by omega)
    rw [this] at hlt
    omega
theorem count_eq : (ordsN n).countP (fun e => chooseN W e == u) = (ordsN n).countP (fun o => givenF W o == u) := by
  by_cases hd : ∃ d, Ord d n ∧ chooseN W d = u
  · obtain ⟨d, hd, hdu⟩ := hd
    have hdc := (choose_iff hW hu hd).1 hdu
    have hdec : ∀ i j, Decidable (Env W u i j) := fun i j => by unfold Env; infer_instance
    let r : Nat → Nat := fun k => maskF n fun l => @decide (Env W u (d.getD k 0) (d.getD l 0)) (hdec _ _)
    have hbit : ∀ k l, (r k).testBit l = true ↔ l < n ∧ Env W u (d.getD k 0) (d.getD l 0) := fun k l => by
      show (maskF n _).testBit l = true ↔ _
      rw [testBit_maskF]; simp
    have hr : ∀ k, k < n → r k < 2 ^ k := fun k hk => by
      apply Nat.lt_pow_two_of_testBit
      intro l hl
      cases hb : (r k).testBit l with
      | false => rfl
      | true =>
        obtain ⟨h1, h2⟩ := (hbit k l).1 hb
        have := hdc _ _ (hd.getD_lt hk) (hd.getD_lt h1) h2
        rw [place_at hd h1, place_at hd hk] at this
        omega
    let pl : List Nat → Bool := fun e => bdec (∀ x, x < n → ∀ l, (r x).testBit l = true → place e l < place e x)
    let pc : List Nat → Bool := fun s => bdec (∃ v : Nat → Nat, (∀ k, k < n → v (s.getD k 0) = v k) ∧ ∀ k, k < n → ∀ l, (r k).testBit l = true → v l < v k)
    have hmain := lin_lev hW.pos hW.le hr pl pc (fun e _ => bdec_iff) (fun s _ => bdec_iff)
    have hA : (ordsN n).countP (fun e => chooseN W e == u) = (ordsN n).countP pl := by
      rw [← count_bij (fun e => e.map (place d)) (fun e he => again_ord hd he) (fun e e' he he' h => ?_) pl]
      · refine count_congr fun e he => ?_
        have ho := mem_ordsN.1 he
        rw [Bool.eq_iff_iff, beq_iff_eq, choose_iff hW hu ho]
        show _ ↔ bdec _ = true
        rw [bdec_iff]
        constructor
        · intro h x hx l hl
          obtain ⟨h1, h2⟩ := (hbit x l).1 hl
          rw [place_map hd ho hx, place_map hd ho h1]
          exact h _ _ (hd.getD_lt hx) (hd.getD_lt h1) h2
        · intro h i j hi hj hx
          obtain ⟨a1, a2⟩ := at_place hd hi
          obtain ⟨b1, b2⟩ := at_place hd hj
          have := h _ a1 _ ((hbit _ _).2 ⟨b1, by rw [a2, b2]; exact hx⟩)
          rwa [place_map hd ho a1, place_map hd ho b1, a2, b2] at this
      · apply ord_ext he.len he'.len
        intro i hi
        have h1 := congrArg (fun l => l.getD i 0) h
        simp only [map_at he hi, map_at he' hi] at h1
        exact place_inj hd (he.getD_lt hi) (he'.getD_lt hi) h1
    have hB : (ordsN n).countP (fun o => givenF W o == u) = (ordsN n).countP pc := by
      have hψ : ∀ (o : List Nat) (k : Nat), k < n → ((List.range n).map fun k => place d (place o (u.getD (d.getD k 0) 0))).getD k 0 = place d (place o (u.getD (d.getD k 0) 0)) := fun o k hk => by simp [List.getD_eq_getElem?_getD, hk]
      have hlt : ∀ o, Ord o n → ∀ k, k < n → place o (u.getD (d.getD k 0) 0) < n := fun o ho k hk => (at_place ho (hu.getD_lt (hd.getD_lt hk))).1
      rw [← count_bij (fun o => (List.range n).map fun k => place d (place o (u.getD (d.getD k 0) 0))) (fun o ho => ?_) (fun o o' ho ho' h => ?_) pc]
      · refine count_congr fun o ho' => ?_
        have ho := mem_ordsN.1 ho'
        rw [Bool.eq_iff_iff, beq_iff_eq, given_iff hW hu ho]
        show _ ↔ bdec _ = true
        rw [bdec_iff]
        constructor
        · rintro ⟨v, h1, h2⟩
          refine ⟨fun k => v (d.getD k 0), fun k hk => ?_, fun k hk l hl => ?_⟩
          · dsimp only
            rw [hψ o k hk, (at_place hd (hlt o ho k hk)).2]
            exact h1 _ (hd.getD_lt hk)
          · obtain ⟨h3, h4⟩ := (hbit k l).1 hl
            exact h2 _ _ (hd.getD_lt hk) (hd.getD_lt h3) h4
        · rintro ⟨v, h1, h2⟩
          refine ⟨fun i => v (place d i), fun i hi => ?_, fun i j hi hj hx => ?_⟩
          · obtain ⟨a1, a2⟩ := at_place hd hi
            have := h1 _ a1
            rw [hψ o _ a1, a2] at this
            exact this
          · obtain ⟨a1, a2⟩ := at_place hd hi
            obtain ⟨b1, b2⟩ := at_place hd hj
            exact h2 _ a1 _ ((hbit _ _).2 ⟨b1, by rw [a2, b2]; exact hx⟩)
      · refine ord_listF (fun k hk => (at_place hd (hlt o ho k hk)).1) (fun j k hj hk e => ?_)
        have e1 := place_inj hd (hlt o ho j hj) (hlt o ho k hk) e
        have e2 := place_inj ho (hu.getD_lt (hd.getD_lt hj)) (hu.getD_lt (hd.getD_lt hk)) e1
        exact hd.inj j k hj hk (hu.inj _ _ (hd.getD_lt hj) (hd.getD_lt hk) e2)
      · have hpl : ∀ g, g < n → place o g = place o' g := fun g hg => by
          obtain ⟨a1, a2⟩ := at_place hu hg
          obtain ⟨b1, b2⟩ := at_place hd a1
          have h1 := congrArg (fun l => l.getD (place d (place u g)) 0) h
          simp only [hψ o _ b1, hψ o' _ b1] at h1
          have := place_inj hd (hlt o ho _ b1) (hlt o' ho' _ b1) h1
          rwa [b2, a2] at this
        apply ord_ext ho.len ho'.len
        intro i hi
        have h1 := hpl _ (ho.getD_lt hi)
        rw [place_at ho hi] at h1
        have := (at_place ho' (ho.getD_lt hi)).2
        rw [← h1] at this
        exact this.symm
    rw [hA, hB, hmain]
  · have h1 : (ordsN n).countP (fun e => chooseN W e == u) = 0 := by
      rw [List.countP_eq_zero]
      intro e he h
      exact hd ⟨e, mem_ordsN.1 he, by simpa using h⟩
    have h2 : (ordsN n).countP (fun o => givenF W o == u) = 0 := by
      rw [List.countP_eq_zero]
      intro o ho h
      obtain ⟨r, _, h4⟩ := (given_iff hW hu (mem_ordsN.1 ho)).1 (by simpa using h)
      exact hd (some_order hW hu h4)
    rw [h1, h2]
end
theorem tallyF_count {n : Nat} (f : List Nat → List Nat) (i g : Nat) (hi : i < n) : ∀ (ls : List (List Nat)) (s : Nat → Nat → Nat), tallyF n f ls s i g = s i g + ls.countP fun l => (f l).getD i 0 == g := by
  intro ls
  induction ls with
  | nil => intro s; rfl
  | cons l ls ih =>
    intro s
    have e : tallyF n f (l :: ls) s = tallyF n f ls (tallyStep n f s l).2 := rfl
    rw [e, ih, List.countP_cons]
    have e2 : (tallyStep n f s l).2 i g = s i g + if (f l).getD i 0 = g then 1 else 0 := by simp [tallyStep, hi]
    rw [e2]
    simp only [beq_iff_eq]
    generalize (if (f l).getD i 0 = g then 1 else 0 : Nat) = z
    omega
theorem givenF_ord {W : List (List Nat)} {n : Nat} (hW : WOk W n) {o : List Nat} (ho : Ord o n) : Ord (givenF W o) n := by
  have hg := (hW.mkt ho).gen
  have e : givenF W o = listF n (traded W o).1 := by rw [givenF, hW.len]
  rw [e]; exact ord_listF hg.lt hg.inj
theorem chances_given {W : List (List Nat)} {n : Nat} (hW : WOk W n) : chancesN W = givenN W := by
  rw [chancesN, givenN, hW.len]
  simp only [tallyN]
  refine List.map_congr_left fun i hi => List.map_congr_left fun g hg => ?_
  have hin : i < n := by simpa using hi
  rw [tallyF_count _ i g hin, tallyF_count _ i g hin]
  congr 1
  rw [count_fiber (n := n) (chooseN W) (fun l => l.getD i 0 == g) _ (fun l hl => chooseN_ord hW (mem_ordsN.1 hl)), count_fiber (n := n) (givenF W) (fun l => l.getD i 0 == g) _ (fun l hl => givenF_ord hW (mem_ordsN.1 hl))]
  congr 1
  refine List.map_congr_left fun u hu => ?_
  rw [count_eq hW (mem_ordsN.1 hu)]
end Go.Proofs.Ytilnbiaabhdfgaa
