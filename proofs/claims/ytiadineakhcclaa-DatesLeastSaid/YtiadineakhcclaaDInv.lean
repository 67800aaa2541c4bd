/-
  Plain: the plan is whole, and no time passes idly; what a whole plan can do.
-/
import Derived.Test.YtiadineakhcclaaDEdf
namespace Go.Proofs.Ytiadineakhcclaa
set_option linter.unusedVariables false
set_option linter.unusedSimpArgs false

structure PInv (L : List J4) (k : Nat) (t : List Int) (out : List P3) : Prop where
  ok : ∀ q, q < out.length → OkPc L out q
  idle : ∀ q, q < out.length → lastTo out q < (out.getD q p0).fr → ∀ j, j < L.length → (doneTo L.length out q).getD j 0 < (L.getD j j0).t → (out.getD q p0).fr ≤ (L.getD j j0).r
  gap : lastTo out out.length < k → ∀ j, j < L.length → 0 < t.getD j 0 → (k : Int) ≤ (L.getD j j0).r
  last : lastTo out out.length ≤ k
  left : ∀ j, j < L.length → t.getD j 0 = (L.getD j j0).t - (doneTo L.length out out.length).getD j 0
theorem doneTo_app (n : Nat) (p q : List P3) : ∀ k, k ≤ p.length → doneTo n (p ++ q) k = doneTo n p k
  | 0, _ => rfl
  | k + 1, hk => by
    have e : (p ++ q).getD k p0 = p.getD k p0 := by simp [List.getD_eq_getElem?_getD, List.getElem?_append_left (show k < p.length by omega)]
    rw [doneTo, doneTo, doneTo_app n p q k (by omega), e]
theorem doneTo_set (n : Nat) (p : List P3) (x : P3) (i : Nat) : ∀ k, k ≤ i → doneTo n (p.set i x) k = doneTo n p k
  | 0, _ => rfl
  | k + 1, hk => by
    have e : (p.set i x).getD k p0 = p.getD k p0 := by
      rw [List.getD_eq_getElem?_getD, List.getElem?_set, if_neg (by omega), List.getD_eq_getElem?_getD]
    rw [doneTo, doneTo, doneTo_set n p x i k (by omega), e]
theorem lastTo_succ (p : List P3) (k : Nat) : lastTo p (k + 1) = (p.getD k p0).to := by rw [lastTo, if_neg (by omega)]; rfl
theorem okPc_congr {L : List J4} {p p' : List P3} {k : Nat} (h : OkPc L p k) (e1 : p'.getD k p0 = p.getD k p0) (e2 : 0 < k → p'.getD (k - 1) p0 = p.getD (k - 1) p0) : OkPc L p' k := by
  refine ⟨?_, ?_, ?_, ?_, ?_, fun hk => ?_⟩
  · rw [e1]; exact h.ja
  · rw [e1]; exact h.jb
  · rw [e1]; exact h.rel
  · rw [e1]; exact h.lt
  · rw [e1]; exact h.le
  · rw [e1, e2 hk]; exact h.prev hk
theorem PInv.step {sh : Bool} {L : List J4} (hL : JobsOk L) {k : Nat} (hk : k < 900) {t : List Int} {out : List P3} (hlen : t.length = L.length) (h : PInv L k t out) :
    PInv L (k + 1) (stepP sh L k (t, out)).1 (stepP sh L k (t, out)).2 := by
  rw [stepP]
  rcases pk_spec sh L t k with ⟨e, hno⟩ | ⟨j, hj, e, hav, _⟩
  · simp only []
    rw [e, if_pos (by omega)]
    refine ⟨h.ok, h.idle, fun _ i hi ht => ?_, by have := h.last; push_cast; omega, h.left⟩
    have h1 := hno i hi
    refine Classical.byContradiction fun h2 => h1 ⟨?_, ht⟩
    push_cast at h2
    omega
  · simp only []
    rw [e, if_neg (by omega), Int.toNat_natCast]
    simp only []
    have hlast := h.last
    rw [addP]
    split
    · rename_i hc
      obtain ⟨m, hm⟩ : ∃ m, out.length = m + 1 := ⟨out.length - 1, by omega⟩
      rw [hm, show m + 1 - 1 = m by omega] at hc ⊢
      obtain ⟨_, hc1, hc2⟩ := hc
      obtain ⟨x, hx⟩ : ∃ x : P3, x = ⟨(out.getD m p0).job, (out.getD m p0).fr, (k : Int) + 1⟩ := ⟨_, rfl⟩
      rw [← hx]
      have hg : ∀ q, q ≠ m → (out.set m x).getD q p0 = out.getD q p0 := fun q hq => by rw [getD_set_i _ _ _ _ _ (by omega), if_neg hq]
      have hgm : (out.set m x).getD m p0 = x := by rw [getD_set_i _ _ _ _ _ (by omega), if_pos rfl]
      have hokm := h.ok m (by omega)
      have hlt : ∀ q, q ≤ m → lastTo (out.set m x) q = lastTo out q := fun q hq => by
        rw [lastTo, lastTo]
        split
        · rfl
        · rw [hg _ (by omega)]
      have hlast2 : lastTo (out.set m x) (out.set m x).length = (k : Int) + 1 := by rw [List.length_set, hm, lastTo_succ, hgm, hx]
      refine ⟨fun q hq => ?_, fun q hq => ?_, fun hgap => ?_, ?_, fun i hi => ?_⟩
      · rw [List.length_set, hm] at hq
        by_cases e2 : q = m
        · subst e2
          refine ⟨?_, ?_, ?_, ?_, ?_, fun hq0 => ?_⟩
          · rw [hgm, hx]; exact hokm.ja
          · rw [hgm, hx]; exact hokm.jb
          · rw [hgm, hx]; exact hokm.rel
          · rw [hgm, hx]; have := hokm.lt; simp only []; omega
          · rw [hgm, hx]; simp only []; omega
          · rw [hg _ (by omega), hgm, hx]; exact hokm.prev hq0
        · exact okPc_congr (h.ok q (by omega)) (hg q e2) (fun hq0 => hg _ (by omega))
      · rw [List.length_set, hm] at hq
        rw [hlt q (by omega), doneTo_set _ _ _ _ _ (by omega)]
        by_cases e2 : q = m
        · subst e2; rw [hgm, hx]; exact h.idle q (by omega)
        · rw [hg q e2]; exact h.idle q (by omega)
      · rw [hlast2] at hgap; push_cast at hgap; omega
      · rw [hlast2]; push_cast; omega
      · have h1 := h.left i hi
        rw [hm] at h1
        rw [List.length_set, hm, doneTo, hgm, doneTo_set _ _ _ _ _ (Nat.le_refl _), hx]
        simp only []
        rw [doneTo, hc1, Int.toNat_natCast, getD_set_i _ _ _ _ _ (by rw [doneTo_len]; exact hj), hc2] at h1
        rw [hc1, Int.toNat_natCast, getD_set_i _ _ _ _ _ (by rw [hlen]; exact hj), getD_set_i _ _ _ _ _ (by rw [doneTo_len]; exact hj)]
        by_cases e2 : i = j
        · subst e2
          rw [if_pos rfl] at h1
          rw [if_pos rfl, if_pos rfl]
          omega
        · rw [if_neg e2] at h1
          rw [if_neg e2, if_neg e2]
          exact h1
    · rename_i hc
      obtain ⟨x, hx⟩ : ∃ x : P3, x = ⟨(j : Int), (k : Int), (k : Int) + 1⟩ := ⟨_, rfl⟩
      rw [← hx]
      have hg : ∀ q, q < out.length → (out ++ [x]).getD q p0 = out.getD q p0 := fun q hq => by simp [List.getD_eq_getElem?_getD, List.getElem?_append_left hq]
      have hgm : (out ++ [x]).getD out.length p0 = x := by simp [List.getD_eq_getElem?_getD]
      have hlt : ∀ q, q ≤ out.length → lastTo (out ++ [x]) q = lastTo out q := fun q hq => by
        rw [lastTo, lastTo]
        split
        · rfl
        · rw [hg _ (by omega)]
      have hl9 : (out ++ [x]).length = out.length + 1 := by simp
      have hlast2 : lastTo (out ++ [x]) (out ++ [x]).length = (k : Int) + 1 := by rw [hl9, lastTo_succ, hgm, hx]
      have hdn : ∀ i, i < L.length → (doneTo L.length (out ++ [x]) (out ++ [x]).length).getD i 0 = (doneTo L.length out out.length).getD i 0 + if i = j then 1 else 0 := fun i hi => by
        rw [hl9, doneTo, hgm, doneTo_app _ _ _ _ (Nat.le_refl _), hx]
        simp only []
        rw [Int.toNat_natCast, getD_set_i _ _ _ _ _ (by rw [doneTo_len]; exact hj)]
        by_cases e2 : i = j
        · subst e2; rw [if_pos rfl, if_pos rfl]; omega
        · rw [if_neg e2, if_neg e2]; omega
      refine ⟨fun q hq => ?_, fun q hq => ?_, fun hgap => ?_, ?_, fun i hi => ?_⟩
      · rw [hl9] at hq
        by_cases e2 : q = out.length
        · subst e2
          refine ⟨?_, ?_, ?_, ?_, ?_, fun hq0 => ?_⟩
          · rw [hgm, hx]; exact Int.natCast_nonneg j
          · rw [hgm, hx]; simp only []; omega
          · rw [hgm, hx]; simp only []; rw [Int.toNat_natCast]; exact hav.1
          · rw [hgm, hx]; simp only []; omega
          · rw [hgm, hx]; simp only []; omega
          · rw [hg _ (by omega), hgm, hx]
            simp only []
            have h9 : lastTo out out.length = (out.getD (out.length - 1) p0).to := by rw [lastTo, if_neg (by omega)]
            refine ⟨by omega, fun h2 h3 => hc ⟨hq0, h3, h2⟩⟩
        · exact okPc_congr (h.ok q (by omega)) (hg q (by omega)) (fun hq0 => hg _ (by omega))
      · rw [hl9] at hq
        rw [hlt q (by omega), doneTo_app _ _ _ _ (by omega)]
        by_cases e2 : q = out.length
        · subst e2
          rw [hgm, hx]
          intro h1 i hi h2
          refine h.gap h1 i hi ?_
          have := h.left i hi
          omega
        · rw [hg q (by omega)]; exact h.idle q (by omega)
      · rw [hlast2] at hgap; push_cast at hgap; omega
      · rw [hlast2]; push_cast; omega
      · have h1 := h.left i hi
        rw [hdn i hi, getD_set_i _ _ _ _ _ (by rw [hlen]; exact hj)]
        by_cases e2 : i = j
        · subst e2; rw [if_pos rfl, if_pos rfl]; omega
        · rw [if_neg e2, if_neg e2]; omega
theorem pinv_run (sh : Bool) {L : List J4} (hL : JobsOk L) : ∀ k, k ≤ 300 → PInv L k (runP sh L k).1 (runP sh L k).2
  | 0, _ => ⟨fun q hq => absurd hq (by simp [runP]), fun q hq => absurd hq (by simp [runP]), fun h => absurd h (by show ¬ lastTo ([] : List P3) 0 < _; rw [lastTo, if_pos rfl]; simp), by show lastTo ([] : List P3) 0 ≤ _; rw [lastTo, if_pos rfl]; exact Int.le_refl _, fun j hj => by
      show (timesOf L).getD j 0 = _ - (List.replicate L.length (0 : Int)).getD j 0
      rw [timesOf_getD, List.getD_eq_getElem?_getD (l := List.replicate _ _), List.getElem?_replicate, if_pos hj]; simp⟩
  | k + 1, hk => PInv.step hL (by omega) (runP_ok sh hL k).len (pinv_run sh hL k (by omega))
theorem planN_whole (sh : Bool) {L : List J4} (hL : JobsOk L) : WholeP L (planN sh L) := by
  have h := pinv_run sh hL 300 (Nat.le_refl _)
  refine ⟨h.ok, fun i hi => ?_⟩
  have h1 := h.left i hi
  have h2 : leftAt sh L 300 i = 0 := left_end hL (Nat.le_refl _) i hi
  have h3 : (runP sh L 300).1.getD i 0 = 0 := h2
  rw [planN]
  omega

/-! What a whole plan can do. -/
theorem fin_ge {L : List J4} (hL : JobsOk L) {p : List P3} : ∀ k, (∀ j, j < k → OkPc L p j) → k ≤ p.length → ∀ q, q < k → (p.getD q p0).to ≤ (finTo L.length p k).getD (p.getD q p0).job.toNat 0
  | 0, _, _, q, hq => absurd hq (by omega)
  | k + 1, h, hkl, q, hq => by
    have hk := h k (by omega)
    have hkj : (p.getD k p0).job.toNat < L.length := by have := hk.ja; have := hk.jb; omega
    rw [finTo, getD_set_i _ _ _ _ _ (by rw [finTo_len]; exact hkj)]
    by_cases e : q = k
    · subst e; rw [if_pos rfl]; exact Int.le_refl _
    · have ih := fin_ge hL k (fun j hj => h j (by omega)) (by omega) q (by omega)
      split
      · -- the pieces lie in order
        have hmono : ∀ d, q + d ≤ k → (p.getD q p0).to ≤ (p.getD (q + d) p0).to := fun d => by
          induction d with
          | zero => intro _; exact Int.le_refl _
          | succ d ihd =>
            intro hd
            have h1 := ihd (by omega)
            have h2 := h (q + d + 1) (by omega)
            have h3 := (h2.prev (by omega)).1
            rw [show q + d + 1 - 1 = q + d by omega] at h3
            have h4 := h2.lt
            show _ ≤ (p.getD (q + d + 1) p0).to
            omega
        have := hmono (k - q) (by omega)
        rw [show q + (k - q) = k by omega] at this
        exact this
      · exact ih
theorem work_le {L : List J4} (hL : JobsOk L) {p : List P3} (hp : ∀ k, k < p.length → OkPc L p k) {S : Nat → Bool} {a E : Int} (hr : ∀ j, j < L.length → S j = true → a ≤ (L.getD j j0).r) (hE : ∀ j, j < L.length → S j = true → (finN L.length p).getD j 0 ≤ E) :
    ∀ k, k ≤ p.length → sumS S (fun j => (doneTo L.length p k).getD j 0) L.length ≤ max 0 (min (lastTo p k) E - a)
  | 0, _ => by
    have h0 := sumS_congr (S := S) (T := S) (f := fun j => (doneTo L.length p 0).getD j 0) (g := fun _ => 0) (n := L.length) (fun _ _ => rfl) (fun i hi _ => by
      show (List.replicate L.length (0 : Int)).getD i 0 = 0
      rw [List.getD_eq_getElem?_getD, List.getElem?_replicate, if_pos hi]; rfl) L.length (Nat.le_refl _)
    rw [h0]
    have h1 : ∀ n, sumS S (fun _ => (0 : Int)) n = 0 := fun n => by
      induction n with
      | zero => rfl
      | succ n ih => rw [sumS, ih]; split <;> rfl
    rw [h1]; omega
  | k + 1, hk => by
    have ih := work_le hL hp hr hE k (by omega)
    have hokk := hp k (by omega)
    have hkj : (p.getD k p0).job.toNat < L.length := by have := hokk.ja; have := hokk.jb; omega
    have hone := sumS_one (S := S) (f := fun j => (doneTo L.length p (k + 1)).getD j 0) (g := fun j => (doneTo L.length p k).getD j 0) (i := (p.getD k p0).job.toNat) (fun j hj => by
      show (doneTo L.length p (k + 1)).getD j 0 = (doneTo L.length p k).getD j 0
      rw [doneTo, getD_set_i _ _ _ _ _ (by rw [doneTo_len]; exact hkj), if_neg hj]) L.length
    have hd : (doneTo L.length p (k + 1)).getD (p.getD k p0).job.toNat 0 - (doneTo L.length p k).getD (p.getD k p0).job.toNat 0 = (p.getD k p0).to - (p.getD k p0).fr := by
      rw [doneTo, getD_set_i _ _ _ _ _ (by rw [doneTo_len]; exact hkj), if_pos rfl]; omega
    have hfr := ok_from hL hokk
    have hlt := hokk.lt
    rw [lastTo_succ]
    rw [hone]
    by_cases hS : S (p.getD k p0).job.toNat = true
    · rw [if_pos ⟨hkj, hS⟩, hd]
      have h1 := hr _ hkj hS
      have h2 := hE _ hkj hS
      have h3 := fin_ge hL p.length hp (Nat.le_refl _) k (by omega)
      have h4 := hokk.rel
      rw [finN] at h2
      omega
    · rw [if_neg (fun h => hS h.2)]
      omega
/-- Jobs that are not released ahead of a, and end at E at the latest: their work fits in between. -/
theorem whole_fits {L : List J4} (hL : JobsOk L) {p : List P3} (h : WholeP L p) {S : Nat → Bool} {a E : Int} (hr : ∀ j, j < L.length → S j = true → a ≤ (L.getD j j0).r) (hE : ∀ j, j < L.length → S j = true → (finN L.length p).getD j 0 ≤ E) :
    sumS S (fun j => (L.getD j j0).t) L.length ≤ max 0 (E - a) := by
  have h1 := work_le hL h.pcs hr hE p.length (Nat.le_refl _)
  have h2 := sumS_congr (S := S) (T := S) (f := fun j => (doneTo L.length p p.length).getD j 0) (g := fun j => (L.getD j j0).t) (n := L.length) (fun _ _ => rfl) (fun i hi _ => h.all i hi) L.length (Nat.le_refl _)
  rw [h2] at h1
  omega
end Go.Proofs.Ytiadineakhcclaa
