/-
  dates (plain): a set that fits is on time when it is done first, by Due; what is on time in an order fits; best is the greatest.
-/
import Derived.Test.YtiadineakhcclaaDOnesP
import Derived.Test.YtiadineakhcclaaDEnds
namespace Go.Proofs.Ytiadineakhcclaa
open Go.RowKit
set_option linter.unusedVariables false
set_option linter.unusedSimpArgs false

/-- Different places of a row: their sum is no greater than the whole. -/
theorem inj_sum (n : Nat) (s : Nat → Nat) : ∀ k, (∀ i, i < k → s i < n) → (∀ a b, a < b → b < k → s a ≠ s b) → ∀ g : Nat → Int, (∀ i, i < n → 0 ≤ g i) → sumF (fun i => g (s i)) k ≤ sumF g n
  | 0, _, _, g, hg => sumF_nonneg n hg
  | k + 1, hs, hi, g, hg => by
      have h1 := inj_sum n s k (fun i hik => hs i (by omega)) (fun a b hab hb => hi a b hab (by omega)) (fun j => if j = s k then 0 else g j) (fun i hin => by
        show 0 ≤ if i = s k then (0 : Int) else g i
        split
        · exact Int.le_refl _
        · exact hg i hin)
      have h2 : sumF (fun i => (fun j => if j = s k then (0 : Int) else g j) (s i)) k = sumF (fun i => g (s i)) k := sumF_congr k fun i hik => by
        show (if s i = s k then (0 : Int) else g (s i)) = _
        rw [if_neg (hi i k hik (by omega))]
      have h3 := sumF_one (f := g) (g := fun j => if j = s k then (0 : Int) else g j) (i := s k) n (fun j _ hne => by
        show g j = if j = s k then (0 : Int) else g j
        rw [if_neg hne])
      rw [if_pos (hs k (by omega))] at h3
      rw [if_pos rfl] at h3
      show sumF (fun i => g (s i)) k + g (s k) ≤ _
      rw [← h2]
      have h1' : sumF (fun i => (fun j => if j = s k then (0 : Int) else g j) (s i)) k ≤ sumF (fun j => if j = s k then (0 : Int) else g j) n := h1
      omega
theorem rowAt_sum (L : List J4) (o : List Int) : ∀ k, rowAt L o k = sumF (fun i => (L.getD (o.getD i 0).toNat j0).t) k
  | 0 => rfl
  | k + 1 => by rw [rowAt, rowAt_sum L o k]; rfl
theorem rowAt_mono {L : List J4} (hL : ∀ i, i < L.length → 0 ≤ (L.getD i j0).t) {o : List Int} (ho : ∀ x ∈ o, 0 ≤ x ∧ x < (L.length : Int)) {a b : Nat} (h : a ≤ b) (hb : b ≤ o.length) : rowAt L o a ≤ rowAt L o b := by
  induction b with
  | zero =>
    obtain rfl : a = 0 := by omega
    exact Int.le_refl _
  | succ b ih =>
    by_cases e : a = b + 1
    · subst e; exact Int.le_refl _
    · have h1 := ih (by omega) (by omega)
      have h2 := ho (o.getD b 0) (by rw [← getD_cons_of (d := (0 : Int)) (by omega)]; exact List.getElem_mem _)
      have h3 := hL (o.getD b 0).toNat (by omega)
      rw [rowAt]; omega
/-- The end of the k-th of a row of different jobs. -/
theorem rowTo_at {L : List J4} {o : List Int} (ho : ∀ x ∈ o, 0 ≤ x ∧ x < (L.length : Int)) (hd : ∀ a b, a < b → b < o.length → o.getD a 0 ≠ o.getD b 0) : ∀ m, m ≤ o.length → ∀ k, k < m → (rowTo L o m).getD (o.getD k 0).toNat 0 = rowAt L o (k + 1)
  | 0, _, k, hk => absurd hk (by omega)
  | m + 1, hm, k, hk => by
      have hmem : ∀ j, j < o.length → 0 ≤ o.getD j 0 ∧ o.getD j 0 < (L.length : Int) := fun j hj => ho _ (by rw [← getD_cons_of (d := (0 : Int)) hj]; exact List.getElem_mem _)
      have h1 := hmem m (by omega)
      have h2 := hmem k (by omega)
      rw [rowTo, getD_set_i _ _ _ _ _ (by rw [rowTo_len]; omega)]
      by_cases e : k = m
      · subst e; rw [if_pos rfl]
      · have h3 := hd k m (by omega) (by omega)
        rw [if_neg (fun h => h3 (by omega))]
        exact rowTo_at ho hd m (by omega) k (by omega)
theorem ord_ne {o : List Int} {n : Nat} (h : ordB o n = true) : ∀ a b, a < b → b < o.length → o.getD a 0 ≠ o.getD b 0 := by
  obtain ⟨hl, _, h3⟩ := ordB_iff.1 h
  intro a b hab hb e
  rw [← getD_cons_of (d := (0 : Int)) (by omega), ← getD_cons_of (d := (0 : Int)) hb] at e
  have hnd : ((List.range n).map fun x : Nat => (x : Int)).Nodup := by
    rw [List.nodup_iff_pairwise_ne, List.pairwise_map]
    refine List.Pairwise.imp_of_mem ?_ List.nodup_range
    intro x y _ _ hne e2
    exact hne (by omega)
  have hle := List.Nodup.length_le_of_subset hnd (l₂ := o.eraseIdx b) (fun x hx => by
    obtain ⟨y, hy, rfl⟩ := List.mem_map.1 hx
    obtain ⟨p, hp, e3⟩ := List.mem_iff_getElem.1 (h3 y (List.mem_range.1 hy))
    rw [List.mem_eraseIdx_iff_getElem]
    by_cases hpb : p = b
    · subst hpb
      exact ⟨a, by omega, by omega, by rw [e, e3]⟩
    · exact ⟨p, hp, hpb, e3⟩)
  rw [List.length_map, List.length_range, List.length_eraseIdx, if_pos hb] at hle
  omega
/-- Jobs of S first, by Due: each ends when the work of S up to it is done. -/
theorem first_work {L : List J4} (hL : ∀ i, i < L.length → 0 ≤ (L.getD i j0).t) {S q : Nat} {s s0 : Nat → Nat} {o : List Int} (hs : Sorted0 (due L) s0 s q q) (h0 : ∀ k, k < q → s0 k < L.length ∧ S.testBit (s0 k) = true)
    (ho : ∀ k, k < q → o.getD k 0 = (s k : Nat)) {k : Nat} (hk : k < q) : rowAt L o (k + 1) ≤ workK L S (s k) := by
  have hsb : ∀ i, i < q → s i < L.length ∧ S.testBit (s i) = true := fun i hi => by
    obtain ⟨m, hm, e⟩ := hs.low i hi
    rw [e]; exact h0 m hm
  have h1 := inj_sum L.length s (k + 1) (fun i hi => (hsb i (by omega)).1) (fun a b hab hb e => by
    have := hs.sorted a b hab (by omega)
    unfold ltK at this; rw [e] at this; omega) (fun j => if S.testBit j = true ∧ leK (due L) j (s k) then (L.getD j j0).t else 0) (fun i hi => by
    have := hL i hi
    split
    · omega
    · exact Int.le_refl _)
  rw [rowAt_sum]
  refine Int.le_trans (Int.le_of_eq (sumF_congr _ fun i hi => ?_)) h1
  show _ = if S.testBit (s i) = true ∧ leK (due L) (s i) (s k) then (L.getD (s i) j0).t else 0
  rw [if_pos ⟨(hsb i (by omega)).2, by
    by_cases e : i = k
    · subst e; exact .inr rfl
    · exact .inl (hs.sorted i k (by omega) hk)⟩, ho i (by omega), Int.toNat_natCast]
/-- What is on time in an order fits. -/
theorem ontime_fits {L : List J4} (hL : ∀ i, i < L.length → 0 ≤ (L.getD i j0).t) {o : List Int} (ho : ordB o L.length = true) {T : Nat} (hT : ∀ j, j < L.length → T.testBit j = true → (rowN L o).getD j 0 ≤ (L.getD j j0).d) : fitB L T = true := by
  have hoi := ordB_iff.1 ho
  have hlen := hoi.1
  have hmem : ∀ j, j < L.length → 0 ≤ o.getD j 0 ∧ o.getD j 0 < (L.length : Int) := fun j hj => hoi.2.1 _ (by rw [← getD_cons_of (d := (0 : Int)) (by omega)]; exact List.getElem_mem _)
  obtain ⟨pos, hpos⟩ : ∃ pos : Nat → Nat, ∀ j, j < L.length → pos j < L.length ∧ o.getD (pos j) 0 = (j : Nat) := by
    have h1 : ∀ j : Nat, ∃ p : Nat, j < L.length → p < L.length ∧ o.getD p 0 = (j : Nat) := fun j => by
      by_cases hj : j < L.length
      · obtain ⟨p, hp, e⟩ := List.mem_iff_getElem.1 (hoi.2.2 j hj)
        exact ⟨p, fun _ => ⟨by omega, by rw [← getD_cons_of (d := (0 : Int)) hp]; exact e⟩⟩
      · exact ⟨0, fun h => absurd h hj⟩
    exact Classical.axiomOfChoice h1
  rw [fitB, decide_eq_true_iff]
  intro i hi hbi
  -- the last of those of T up to i
  have hlast : ∀ m, m ≤ L.length → (∀ k, k < m → ¬ (T.testBit (o.getD k 0).toNat = true ∧ leK (due L) (o.getD k 0).toNat i)) ∨ ∃ k, k < m ∧ T.testBit (o.getD k 0).toNat = true ∧ leK (due L) (o.getD k 0).toNat i ∧ ∀ k', k < k' → k' < m → ¬ (T.testBit (o.getD k' 0).toNat = true ∧ leK (due L) (o.getD k' 0).toNat i) := fun m => by
    induction m with
    | zero => intro _; exact .inl fun k hk => by omega
    | succ m ih =>
      intro hm
      by_cases h : T.testBit (o.getD m 0).toNat = true ∧ leK (due L) (o.getD m 0).toNat i
      · exact .inr ⟨m, by omega, h.1, h.2, fun k' h1 h2 => by omega⟩
      · rcases ih (by omega) with h1 | ⟨k, h1, h2, h3, h4⟩
        · exact .inl fun k hk => by
            by_cases e : k = m
            · subst e; exact h
            · exact h1 k (by omega)
        · exact .inr ⟨k, by omega, h2, h3, fun k' h5 h6 => by
            by_cases e : k' = m
            · subst e; exact h
            · exact h4 k' h5 (by omega)⟩
  rcases hlast L.length (Nat.le_refl _) with h1 | ⟨k, hk, hkT, hkl, hno⟩
  · exfalso
    have h2 := hpos i hi
    refine h1 _ h2.1 ?_
    rw [h2.2, Int.toNat_natCast]
    exact ⟨hbi, .inr rfl⟩
  · have hkm := hmem k hk
    have h2 := hT (o.getD k 0).toNat (by omega) hkT
    rw [rowN, rowTo_at (by exact hoi.2.1) (ord_ne ho) o.length (Nat.le_refl _) k (by omega)] at h2
    have h3 : (L.getD (o.getD k 0).toNat j0).d ≤ (L.getD i j0).d := by
      unfold leK ltK due at hkl
      rcases hkl with hkl | hkl
      · omega
      · rw [hkl]; exact Int.le_refl _
    have h4 : workK L T i ≤ rowAt L o (k + 1) := by
      have hpi := inj_sum L.length pos L.length (fun j hj => (hpos j hj).1) (fun a b hab hb e => by
        have h5 := (hpos a (by omega)).2
        have h6 := (hpos b hb).2
        rw [e, h6] at h5; omega) (fun k' => if T.testBit (o.getD k' 0).toNat = true ∧ leK (due L) (o.getD k' 0).toNat i then (L.getD (o.getD k' 0).toNat j0).t else 0) (fun j hj => by
        have := hmem j hj
        have := hL (o.getD j 0).toNat (by omega)
        split
        · omega
        · exact Int.le_refl _)
      have h5 : workK L T i = sumF (fun j => (fun k' => if T.testBit (o.getD k' 0).toNat = true ∧ leK (due L) (o.getD k' 0).toNat i then (L.getD (o.getD k' 0).toNat j0).t else 0) (pos j)) L.length := by
        unfold workK
        refine sumF_congr _ fun j hj => ?_
        show _ = if _ then _ else _
        rw [(hpos j hj).2, Int.toNat_natCast]
      rw [h5]
      refine Int.le_trans hpi ?_
      have h6 : ∀ m, m ≤ L.length → sumF (fun k' => if T.testBit (o.getD k' 0).toNat = true ∧ leK (due L) (o.getD k' 0).toNat i then (L.getD (o.getD k' 0).toNat j0).t else 0) m ≤ rowAt L o (min m (k + 1)) := fun m => by
        induction m with
        | zero => intro _; rw [Nat.zero_min]; exact Int.le_refl _
        | succ m ih =>
          intro hm
          have h7 := ih (by omega)
          have h8 := hmem m (by omega)
          have h9 := hL (o.getD m 0).toNat (by omega)
          rw [sumF]
          by_cases hmk : m ≤ k
          · rw [show min m (k + 1) = m by omega] at h7
            rw [show min (m + 1) (k + 1) = m + 1 by omega, rowAt]
            split <;> omega
          · rw [show min m (k + 1) = k + 1 by omega] at h7
            rw [show min (m + 1) (k + 1) = k + 1 by omega, if_neg (hno m (by omega) (by omega))]
            omega
      have h7 := h6 L.length (Nat.le_refl _)
      rw [show min L.length (k + 1) = k + 1 by omega] at h7
      exact h7
    omega
theorem bestV_max {v : Nat → Int} {f : Nat → Bool} : ∀ k S, S < k → f S = true → v S ≤ v (bestV v f k)
  | 0, S, h, _ => by omega
  | k + 1, S, h, hf => by
      unfold bestV
      by_cases e : S = k
      · subst e
        by_cases hc : v (bestV v f S) < v S ∧ f S = true
        · rw [if_pos hc]; exact Int.le_refl _
        · rw [if_neg hc]
          have : ¬ v (bestV v f S) < v S := fun h => hc ⟨h, hf⟩
          omega
      · have h1 := bestV_max (v := v) k S (by omega) hf
        split
        · omega
        · exact h1
theorem bestV_fit {v : Nat → Int} {f : Nat → Bool} (h0 : f 0 = true) : ∀ k, f (bestV v f k) = true
  | 0 => h0
  | k + 1 => by
      unfold bestV
      split
      · rename_i h; exact h.2
      · exact bestV_fit h0 k
theorem fitB_zero (L : List J4) : fitB L 0 = true := by
  rw [fitB, decide_eq_true_iff]
  intro i _ h
  rw [Nat.zero_testBit] at h; cases h
theorem mostN_fit (L : List J4) : fitB L (mostN L) = true := bestV_fit (fitB_zero L) _
theorem weighN_fit (L : List J4) : fitB L (weighN L) = true := bestV_fit (fitB_zero L) _
theorem mostN_lt' (L : List J4) : mostN L < 2 ^ L.length := bestV_lt _ _ _ (Nat.two_pow_pos _)
theorem weighN_lt' (L : List J4) : weighN L < 2 ^ L.length := bestV_lt _ _ _ (Nat.two_pow_pos _)
theorem most_max {L : List J4} {T : Nat} (hn : L.length ≤ 8) (hT : T < 2 ^ L.length) (h : fitB L T = true) : cardF L.length T ≤ cardF L.length (mostN L) := by
  have h1 := bestV_max (v := fun S => (cardF 8 S : Int)) (f := fitB L) (2 ^ L.length) T hT h
  have h2 : (cardF 8 T : Int) ≤ (cardF 8 (mostN L) : Int) := h1
  rw [cardF_8 hT hn, cardF_8 (mostN_lt' L) hn] at h2
  omega
theorem weigh_max {L : List J4} {T : Nat} (hT : T < 2 ^ L.length) (h : fitB L T = true) : wtN L T L.length ≤ wtN L (weighN L) L.length :=
  bestV_max (v := fun S => wtN L S L.length) (f := fitB L) (2 ^ L.length) T hT h
end Go.Proofs.Ytiadineakhcclaa
