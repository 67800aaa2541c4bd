/-
  Plain: a number added to all Releases and Dues; rows changed one by one.
-/
import Derived.Test.YtiadineakhcclaaDOverP
namespace Go.Proofs.Ytiadineakhcclaa
open Go.RowKit
set_option linter.unusedVariables false
set_option linter.unusedSimpArgs false

/-! Rows changed one by one. -/
def updJ (f : J4 → J4) (L : List J4) : Nat → List J4
  | 0 => L
  | k + 1 => (updJ f L k).set k (f ((updJ f L k).getD k j0))
theorem updJ_len (f : J4 → J4) (L : List J4) : ∀ k, (updJ f L k).length = L.length
  | 0 => rfl
  | k + 1 => by rw [updJ, List.length_set]; exact updJ_len f L k
theorem updJ_getD (f : J4 → J4) (L : List J4) : ∀ k, k ≤ L.length → ∀ i, (updJ f L k).getD i j0 = if i < k then f (L.getD i j0) else L.getD i j0
  | 0, _, i => by rw [if_neg (by omega)]; rfl
  | k + 1, hk, i => by
    have hk0 : (updJ f L k).getD k j0 = L.getD k j0 := by rw [updJ_getD f L k (by omega) k, if_neg (Nat.lt_irrefl _)]
    rw [updJ, getD_set_i _ _ _ _ _ (by rw [updJ_len]; omega), hk0]
    by_cases e : i = k
    · subst e; rw [if_pos rfl, if_pos (by omega)]
    · rw [if_neg e, updJ_getD f L k (by omega) i]
      by_cases e2 : i < k
      · rw [if_pos e2, if_pos (by omega)]
      · rw [if_neg e2, if_neg (by omega)]
theorem ext_getD {α : Type} {l l' : List α} (d : α) (h : l.length = l'.length) (h2 : ∀ i, i < l.length → l.getD i d = l'.getD i d) : l = l' := by
  apply List.ext_getElem h
  intro i h3 h4
  have := h2 i h3
  rw [← getD_cons_of h3, ← getD_cons_of h4] at this
  exact this
theorem map_getD_j (f : J4 → J4) (L : List J4) (i : Nat) (hi : i < L.length) : (L.map f).getD i j0 = f (L.getD i j0) := by
  rw [List.getD_eq_getElem?_getD, List.getElem?_map, List.getD_eq_getElem?_getD, List.getElem?_eq_getElem hi]; rfl
theorem map_getD_p (f : P3 → P3) (l : List P3) (i : Nat) (hi : i < l.length) : (l.map f).getD i p0 = f (l.getD i p0) := by
  rw [List.getD_eq_getElem?_getD, List.getElem?_map, List.getD_eq_getElem?_getD, List.getElem?_eq_getElem hi]; rfl
theorem updJ_all (f : J4 → J4) (L : List J4) : updJ f L L.length = L.map f :=
  ext_getD j0 (by rw [updJ_len, List.length_map]) fun i hi => by
    rw [updJ_len] at hi
    rw [updJ_getD f L _ (Nat.le_refl _), if_pos hi, map_getD_j f L i hi]
def updP (f : P3 → P3) (l : List P3) : Nat → List P3
  | 0 => l
  | k + 1 => (updP f l k).set k (f ((updP f l k).getD k p0))
theorem updP_len (f : P3 → P3) (l : List P3) : ∀ k, (updP f l k).length = l.length
  | 0 => rfl
  | k + 1 => by rw [updP, List.length_set]; exact updP_len f l k
theorem updP_getD (f : P3 → P3) (l : List P3) : ∀ k, k ≤ l.length → ∀ i, (updP f l k).getD i p0 = if i < k then f (l.getD i p0) else l.getD i p0
  | 0, _, i => by rw [if_neg (by omega)]; rfl
  | k + 1, hk, i => by
    have hk0 : (updP f l k).getD k p0 = l.getD k p0 := by rw [updP_getD f l k (by omega) k, if_neg (Nat.lt_irrefl _)]
    rw [updP, getD_set_i _ _ _ _ _ (by rw [updP_len]; omega), hk0]
    by_cases e : i = k
    · subst e; rw [if_pos rfl, if_pos (by omega)]
    · rw [if_neg e, updP_getD f l k (by omega) i]
      by_cases e2 : i < k
      · rw [if_pos e2, if_pos (by omega)]
      · rw [if_neg e2, if_neg (by omega)]
theorem updP_all (f : P3 → P3) (l : List P3) : updP f l l.length = l.map f :=
  ext_getD p0 (by rw [updP_len, List.length_map]) fun i hi => by
    rw [updP_len] at hi
    rw [updP_getD f l _ (Nat.le_refl _), if_pos hi, map_getD_p f l i hi]

/-! Stores into the cells of rows. -/
theorem jcells_set0 : ∀ (L : List J4) (i : Nat) (x : Int), i < L.length → (jcells L).set (i * 4) (.int .i64 x) = jcells (L.set i ⟨x, (L.getD i j0).r, (L.getD i j0).d, (L.getD i j0).w⟩)
  | [], i, x, h => absurd h (by simp)
  | j :: L, 0, x, _ => rfl
  | j :: L, i + 1, x, h => by
    have := jcells_set0 L i x (by simpa using h)
    have e : jcells (j :: L) = .int .i64 j.t :: .int .i64 j.r :: .int .i64 j.d :: .int .i64 j.w :: jcells L := rfl
    have g : (j :: L).getD (i + 1) j0 = L.getD i j0 := by simp
    rw [g, e, show (i + 1) * 4 = i * 4 + 1 + 1 + 1 + 1 by omega, List.set_cons_succ, List.set_cons_succ, List.set_cons_succ, List.set_cons_succ, this]
    rfl
theorem jcells_set1 : ∀ (L : List J4) (i : Nat) (x : Int), i < L.length → (jcells L).set (i * 4 + 1) (.int .i64 x) = jcells (L.set i ⟨(L.getD i j0).t, x, (L.getD i j0).d, (L.getD i j0).w⟩)
  | [], i, x, h => absurd h (by simp)
  | j :: L, 0, x, _ => rfl
  | j :: L, i + 1, x, h => by
    have := jcells_set1 L i x (by simpa using h)
    have e : jcells (j :: L) = .int .i64 j.t :: .int .i64 j.r :: .int .i64 j.d :: .int .i64 j.w :: jcells L := rfl
    have g : (j :: L).getD (i + 1) j0 = L.getD i j0 := by simp
    rw [g, e, show (i + 1) * 4 + 1 = i * 4 + 1 + 1 + 1 + 1 + 1 by omega, List.set_cons_succ, List.set_cons_succ, List.set_cons_succ, List.set_cons_succ, this]
    rfl
theorem jcells_set2 : ∀ (L : List J4) (i : Nat) (x : Int), i < L.length → (jcells L).set (i * 4 + 2) (.int .i64 x) = jcells (L.set i ⟨(L.getD i j0).t, (L.getD i j0).r, x, (L.getD i j0).w⟩)
  | [], i, x, h => absurd h (by simp)
  | j :: L, 0, x, _ => rfl
  | j :: L, i + 1, x, h => by
    have := jcells_set2 L i x (by simpa using h)
    have e : jcells (j :: L) = .int .i64 j.t :: .int .i64 j.r :: .int .i64 j.d :: .int .i64 j.w :: jcells L := rfl
    have g : (j :: L).getD (i + 1) j0 = L.getD i j0 := by simp
    rw [g, e, show (i + 1) * 4 + 2 = i * 4 + 2 + 1 + 1 + 1 + 1 by omega, List.set_cons_succ, List.set_cons_succ, List.set_cons_succ, List.set_cons_succ, this]
    rfl
theorem jcells_set3 : ∀ (L : List J4) (i : Nat) (x : Int), i < L.length → (jcells L).set (i * 4 + 3) (.int .i64 x) = jcells (L.set i ⟨(L.getD i j0).t, (L.getD i j0).r, (L.getD i j0).d, x⟩)
  | [], i, x, h => absurd h (by simp)
  | j :: L, 0, x, _ => rfl
  | j :: L, i + 1, x, h => by
    have := jcells_set3 L i x (by simpa using h)
    have e : jcells (j :: L) = .int .i64 j.t :: .int .i64 j.r :: .int .i64 j.d :: .int .i64 j.w :: jcells L := rfl
    have g : (j :: L).getD (i + 1) j0 = L.getD i j0 := by simp
    rw [g, e, show (i + 1) * 4 + 3 = i * 4 + 3 + 1 + 1 + 1 + 1 by omega, List.set_cons_succ, List.set_cons_succ, List.set_cons_succ, List.set_cons_succ, this]
    rfl
theorem pcells_set1 : ∀ (l : List P3) (i : Nat) (x : Int), i < l.length → (pcells l).set (i * 3 + 1) (.int .i64 x) = pcells (l.set i ⟨(l.getD i p0).job, x, (l.getD i p0).to⟩)
  | [], i, x, h => absurd h (by simp)
  | j :: L, 0, x, _ => rfl
  | j :: L, i + 1, x, h => by
    have := pcells_set1 L i x (by simpa using h)
    have e : pcells (j :: L) = .int .i64 j.job :: .int .i64 j.fr :: .int .i64 j.to :: pcells L := rfl
    have g : (j :: L).getD (i + 1) p0 = L.getD i p0 := by simp
    rw [g, e, show (i + 1) * 3 + 1 = (i * 3 + 1) + 1 + 1 + 1 by omega, List.set_cons_succ, List.set_cons_succ, List.set_cons_succ, this]
    rfl

/-! Everything later. -/
def shJ (b : Nat) (j : J4) : J4 := ⟨j.t, j.r + b, j.d + b, j.w⟩
def shP (b : Nat) (p : P3) : P3 := ⟨p.job, p.fr + b, p.to + b⟩
theorem pk_shift {L : List J4} {t : List Int} {a : Int} (b : Nat) : pk false (L.map (shJ b)) t (a + b) = pk false L t a := by
  have h : ∀ k, k ≤ L.length → pkTo false (L.map (shJ b)) t (a + b) k = pkTo false L t a k := fun k => by
    induction k with
    | zero => intro _; rfl
    | succ k ih =>
      intro hk
      have hb := pkTo_bd false L t a k
      rw [pkTo, pkTo, ih (by omega), map_getD_j _ _ _ (by omega)]
      have e1 : ((shJ b (L.getD k j0)).r ≤ a + b) = ((L.getD k j0).r ≤ a) := by
        rw [eq_iff_iff]; show (L.getD k j0).r + b ≤ a + b ↔ _; omega
      simp only [e1]
      by_cases hn : pkTo false L t a k < 0
      · simp only [hn, true_or]
      · have e2 : (keyP false (L.map (shJ b)) t k < keyP false (L.map (shJ b)) t (pkTo false L t a k).toNat) = (keyP false L t k < keyP false L t (pkTo false L t a k).toNat) := by
          rw [eq_iff_iff]
          unfold keyP
          rw [if_neg (by simp), if_neg (by simp), if_neg (by simp), if_neg (by simp), map_getD_j _ _ _ (by omega), map_getD_j _ _ _ (by omega)]
          show (L.getD k j0).d + b < (L.getD (pkTo false L t a k).toNat j0).d + b ↔ _
          omega
        simp only [e2]
  rw [pk, pk, List.length_map]
  exact h _ (Nat.le_refl _)
theorem addP_shift (out : List P3) (now a : Int) (b : Nat) : addP (out.map (shP b)) now (a + b) = (addP out now a).map (shP b) := by
  rw [addP, addP, List.length_map]
  by_cases h0 : 0 < out.length
  · rw [map_getD_p _ _ _ (by omega)]
    have e : (0 < out.length ∧ (shP b (out.getD (out.length - 1) p0)).job = now ∧ (shP b (out.getD (out.length - 1) p0)).to = a + b) = (0 < out.length ∧ (out.getD (out.length - 1) p0).job = now ∧ (out.getD (out.length - 1) p0).to = a) := by
      rw [eq_iff_iff]
      show (0 < out.length ∧ (out.getD (out.length - 1) p0).job = now ∧ (out.getD (out.length - 1) p0).to + b = a + b) ↔ _
      constructor
      · rintro ⟨h1, h2, h3⟩; exact ⟨h1, h2, by omega⟩
      · rintro ⟨h1, h2, h3⟩; exact ⟨h1, h2, by omega⟩
    simp only [e]
    split
    · rw [List.map_set]
      congr 1
      show (⟨_, _, a + b + 1⟩ : P3) = ⟨_, _, a + 1 + b⟩
      rw [show a + (b : Int) + 1 = a + 1 + b by omega]; rfl
    · rw [List.map_append]
      congr 1
      show [(⟨now, a + b, a + b + 1⟩ : P3)] = [⟨now, a + b, a + 1 + b⟩]
      rw [show a + (b : Int) + 1 = a + 1 + b by omega]
  · rw [if_neg (fun h => h0 h.1), if_neg (fun h => h0 h.1), List.map_append]
    congr 1
    show [(⟨now, a + b, a + b + 1⟩ : P3)] = [⟨now, a + b, a + 1 + b⟩]
    rw [show a + (b : Int) + 1 = a + 1 + b by omega]
theorem times_shift (L : List J4) (b : Nat) : timesOf (L.map (shJ b)) = timesOf L := by
  rw [timesOf, timesOf, List.map_map]; rfl
theorem run_early {L : List J4} (hL : JobsOk L) (b : Nat) : ∀ k, k ≤ b → runP false (L.map (shJ b)) k = (timesOf L, [])
  | 0, _ => by rw [runP, times_shift]
  | k + 1, hk => by
    rw [runP, run_early hL b k (by omega), stepP]
    rcases pk_spec false (L.map (shJ b)) (timesOf L) k with ⟨e, _⟩ | ⟨i, hi, e, hav, _⟩
    · simp only []; rw [e, if_pos (by omega)]
    · exfalso
      rw [List.length_map] at hi
      have h1 := hav.1
      rw [map_getD_j _ _ _ hi] at h1
      have h2 : (L.getD i j0).r + b ≤ k := h1
      have := hL.at_ i hi
      omega
theorem run_shift {L : List J4} (hL : JobsOk L) (b : Nat) : ∀ k, runP false (L.map (shJ b)) (b + k) = ((runP false L k).1, (runP false L k).2.map (shP b))
  | 0 => by rw [Nat.add_zero, run_early hL b b (Nat.le_refl _)]; rfl
  | k + 1 => by
    show stepP false (L.map (shJ b)) ((b + k : Nat) : Int) (runP false (L.map (shJ b)) (b + k)) = _
    rw [run_shift hL b k, stepP]
    have e : ((b + k : Nat) : Int) = (k : Int) + b := by push_cast; omega
    simp only []
    rw [e, pk_shift b]
    show _ = ((stepP false L k (runP false L k)).1, (stepP false L k (runP false L k)).2.map (shP b))
    rw [stepP]
    split
    · rfl
    · rw [addP_shift]
theorem plan_shift {L : List J4} (hL : JobsOk L) {b : Nat} (hb : b ≤ 300) (hL' : JobsOk (L.map (shJ b))) : planN false (L.map (shJ b)) = (planN false L).map (shP b) := by
  obtain ⟨k, hk⟩ : ∃ k, 300 = b + k := ⟨300 - b, by omega⟩
  have h1 := run_shift hL b k
  rw [← hk] at h1
  have h2 := runP_300 (sh := false) hL' (k := 300) (Nat.le_refl _)
  rw [h1] at h2
  have h3 := runP_end (sh := false) hL (k := k) h2
  rw [planN, h1, ← h3]
theorem fin_shift {n : Nat} {p : List P3} {b : Nat} (h : ∀ q, q < p.length → 0 < (p.getD q p0).to) : ∀ k, k ≤ p.length → ∀ i, ((finTo n p k).getD i 0 = 0 ∧ (finTo n (p.map (shP b)) k).getD i 0 = 0) ∨ (0 < (finTo n p k).getD i 0 ∧ (finTo n (p.map (shP b)) k).getD i 0 = (finTo n p k).getD i 0 + b)
  | 0, _, i => by
    left
    rw [finTo, finTo, List.getD_eq_getElem?_getD, List.getElem?_replicate]
    split <;> exact ⟨rfl, rfl⟩
  | k + 1, hk, i => by
    have ih := fin_shift (n := n) (b := b) h k (by omega) i
    have hto := h k (by omega)
    rw [finTo, finTo, map_getD_p _ _ _ (by omega)]
    show ((List.set _ (p.getD k p0).job.toNat (p.getD k p0).to).getD i 0 = 0 ∧ (List.set _ (p.getD k p0).job.toNat ((p.getD k p0).to + b)).getD i 0 = 0) ∨ (0 < (List.set _ (p.getD k p0).job.toNat (p.getD k p0).to).getD i 0 ∧ (List.set _ (p.getD k p0).job.toNat ((p.getD k p0).to + b)).getD i 0 = (List.set _ (p.getD k p0).job.toNat (p.getD k p0).to).getD i 0 + b)
    by_cases hn : (p.getD k p0).job.toNat < n
    · rw [getD_set_i _ _ _ _ _ (by rw [finTo_len]; exact hn), getD_set_i _ _ _ _ _ (by rw [finTo_len]; exact hn)]
      by_cases e : i = (p.getD k p0).job.toNat
      · rw [if_pos e, if_pos e]; right; exact ⟨hto, rfl⟩
      · rw [if_neg e, if_neg e]; exact ih
    · rw [List.set_eq_of_length_le (by rw [finTo_len]; omega), List.set_eq_of_length_le (by rw [finTo_len]; omega)]; exact ih
theorem del_shift {L : List J4} (hL : JobsOk L) {b : Nat} (hb : b ≤ 300) (hL' : JobsOk (L.map (shJ b))) : delN (L.map (shJ b)) (planN false (L.map (shJ b))) = delN L (planN false L) := by
  have hto : ∀ q, q < (planN false L).length → 0 < ((planN false L).getD q p0).to := fun q hq => by have := (runP_ok false hL 300).pc q hq; show 0 < ((runP false L 300).2.getD q p0).to; omega
  have he : ∀ i, i < L.length → (finN L.length ((planN false L).map (shP b))).getD i 0 = (finN L.length (planN false L)).getD i 0 + b := fun i hi => by
    have h1 := fin_shift (n := L.length) (b := b) hto (planN false L).length (Nat.le_refl _) i
    obtain ⟨T, _, _, h2⟩ := end_unit (sh := false) hL i hi
    rw [finN, List.length_map]
    rw [finN] at h2 ⊢
    rcases h1 with h1 | h1
    · omega
    · exact h1.2
  rw [plan_shift hL hb hL', delN, delN, List.length_map]
  have h3 : ∀ k, k ≤ L.length → delTo (L.map (shJ b)) (finN L.length ((planN false L).map (shP b))) k = delTo L (finN L.length (planN false L)) k := fun k => by
    induction k with
    | zero =>
      intro _
      rw [delTo, delTo, he 0 hL.pos, map_getD_j _ _ _ hL.pos]
      show _ + (b : Int) - ((L.getD 0 j0).d + b) = _
      omega
    | succ k ih =>
      intro hk
      rw [delTo, delTo, ih (by omega), he k (by omega), map_getD_j _ _ _ (by omega)]
      show max _ (_ + (b : Int) - ((L.getD k j0).d + b)) = _
      congr 1
      omega
  exact h3 _ (Nat.le_refl _)
theorem modU60 (x : Int) : ∃ i : Nat, i < 60 ∧ wrap64 ((IntKind.u64.wrap x).tmod 60) = (i : Int) := by
  have h0 : 0 ≤ IntKind.u64.wrap x := by
    simp only [IntKind.wrap]
    exact Int.emod_nonneg _ (by decide)
  generalize IntKind.u64.wrap x = y at *
  rw [Int.tmod_eq_emod_of_nonneg h0]
  refine ⟨(y % 60).toNat, by omega, ?_⟩
  rw [show ((y % 60).toNat : Int) = y % 60 by omega]
  unfold wrap64; omega
end Go.Proofs.Ytiadineakhcclaa
