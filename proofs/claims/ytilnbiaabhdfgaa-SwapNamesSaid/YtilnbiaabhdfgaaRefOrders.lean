/-
  The reference's orders and Orders.
-/
import Derived.Test.YtilnbiaabhdfgaaRefValid
import Derived.Test.YtilnbiaabhdfgaaBase
namespace Go.Proofs.Ytilnbiaabhdfgaa
open Go.RowKit
set_option linter.unusedVariables false
set_option linter.unusedSimpArgs false

/-- A row's block is new, or that of the row that came in. -/
def Fresh (w : World) (A : Option Addr) (v : Value) : Prop := ∀ g, v.ownBlock = some g → w.heap.size ≤ g ∨ ∃ o, A = some ⟨g, o, none⟩
/-- A slice of rows comes back. -/
def RowsNew (L : List (List Nat)) (A : Option Addr) (w : World) (e : Ending) (w' : World) : Prop :=
  ∃ X c vs, e = .returned (.slice X L.length c) ∧ L.length ≤ c ∧ vs.length = L.length ∧ (∀ i u, vs[i]? = some u → ∃ b o, X = some ⟨b, o, none⟩ ∧ w'.cell? ⟨b, o + i, none⟩ = some u) ∧ RowVals w' none vs (upp L) ∧ (∀ v ∈ vs, Fresh w A v) ∧ Below w.heap.size w w' ∧ ∀ g, (Value.slice X L.length c).ownBlock = some g → w.heap.size ≤ g
theorem own_cells {w : World} {base n c : Nat} {e : TypeId} {X : Option Addr} {vs : List Value} (h : w.ownsRow base e 1 (.slice X n c) n vs) : ∀ i u, vs[i]? = some u → ∃ b o, X = some ⟨b, o, none⟩ ∧ w.cell? ⟨b, o + i, none⟩ = some u := fun i u hu => by
  have hl : i < vs.length := by
    rcases Nat.lt_or_ge i vs.length with h1 | h1
    · exact h1
    · rw [List.getElem?_eq_none h1] at hu; cases hu
  obtain ⟨g, c2, e1, _⟩ := own_form h (by have := h.1; omega)
  injection e1 with e2 e3 e4
  subst e2
  exact ⟨g, 0, rfl, by rw [← add_plain]; exact h.cells rfl i u hu⟩
theorem rowVals_none {w : World} {g : Option Nat} {vs : List Value} {L : List (List Int)} (h : RowVals w g vs L) : RowVals w none vs L := h.off fun _ _ _ _ q _ e => by cases e
theorem ordsTo_le {n d : Nat} {B : Nat} (h : ∀ l, (ordsF n d l).length ≤ B) (l : List Nat) : ∀ k, (ordsTo n d l k).length ≤ k * B := by
  intro k
  induction k with
  | zero => simp [ordsTo]
  | succ k ih =>
    rw [ordsTo_succ, List.length_append, Nat.succ_mul]
    have : (if k ∈ l then ([] : List (List Nat)) else ordsF n d (l ++ [k])).length ≤ B := by
      split
      · simp
      · exact h _
    omega
theorem ordsF_le {n : Nat} (hn : n ≤ 5) : ∀ (d : Nat) (l : List Nat), (ordsF n d l).length ≤ 5 ^ d := by
  intro d
  induction d with
  | zero => intro l; simp [ordsF]
  | succ d ih =>
    intro l
    have h1 := ordsTo_le ih l n
    rw [ordsTo_full] at h1
    have h2 : n * 5 ^ d ≤ 5 * 5 ^ d := Nat.mul_le_mul_right _ hn
    rw [Nat.pow_succ]; omega
theorem ords_small {n d k : Nat} (hn : n ≤ 5) (hd : d ≤ 5) (hk : k ≤ 5) (l l' : List Nat) : (ordsTo n d l k).length ≤ 1000000 ∧ (ordsF n d l').length ≤ 1000000 := by
  have h1 := ordsTo_le (ordsF_le hn d) l k
  have h2 := ordsF_le hn d l'
  have h3 : 5 ^ d ≤ 5 ^ 5 := Nat.pow_le_pow_right (by decide) hd
  have h4 : k * 5 ^ d ≤ 5 * 5 ^ 5 := Nat.mul_le_mul hk h3
  omega
theorem own_next {w w' : World} {base k : Nat} {e : TypeId} {v : Value} {xs : List Value} (h : w.ownsRow base e 1 v k xs) (hb : Below w.heap.size w w') : w'.ownsRow base e 1 v k xs := by
  refine ⟨h.1, ?_⟩
  rcases h.2 with h2 | ⟨g, cap, cur, hv, hg, hh, r⟩
  · exact .inl h2
  · exact .inr ⟨g, cap, cur, hv, hg, (hb.block g (lt_of_block hh)).trans hh, r⟩
theorem rowVals_one {w : World} {g : Option Nat} {vs : List Value} {L : List (List Int)} (h : RowVals w g vs L) : ∀ u ∈ vs, u.oneCell' = true := fun u hu => by
  obtain ⟨i, hi, rfl⟩ := List.getElem_of_mem hu
  obtain ⟨A', c', h1, _⟩ := h.2 i (by rw [← h.1]; exact hi)
  rw [List.getElem?_eq_getElem hi] at h1
  injection h1 with h1
  rw [h1]; rfl

theorem ordsF_pos {n : Nat} : ∀ (d : Nat) (l : List Nat), Part l n → l.length + d = n → 0 < (ordsF n d l).length := by
  intro d
  induction d with
  | zero => intro l _ _; simp [ordsF]
  | succ d ih =>
    intro l hp hl
    have hx : ∃ x, x < n ∧ x ∉ l := by
      apply Classical.byContradiction
      intro hno
      have hall : ∀ x, x < n → x ∈ l := fun x hx => Classical.byContradiction fun h => hno ⟨x, hx, h⟩
      have := nodup_le l.length ((List.range n).map (place l)) (by
        rw [List.nodup_iff_pairwise_ne, List.pairwise_map]
        refine List.Pairwise.imp_of_mem ?_ (List.pairwise_lt_range (n := n))
        intro a b ha hb hab e2
        simp only [List.mem_range] at ha hb
        have h1 := (place_lt (hall a ha)).2
        have h2 := (place_lt (hall b hb)).2
        rw [e2, h2] at h1
        omega) (fun y hy => by
        obtain ⟨g, hg, rfl⟩ := List.mem_map.1 hy
        exact (place_lt (hall g (by simpa using hg))).1)
      simp at this
      omega
    obtain ⟨x, hx, hxl⟩ := hx
    have h1 := ih (l ++ [x]) (hp.snoc hx hxl) (by simp; omega)
    obtain ⟨o, ho⟩ := List.exists_mem_of_length_pos h1
    refine List.length_pos_of_mem (a := o) ?_
    simp only [ordsF, List.mem_flatMap, List.mem_range]
    exact ⟨x, hx, by rw [if_neg hxl]; exact ho⟩

/-- begun[:len(begun):len(begun)]. -/
theorem slice_hm (A : Option Addr) (m c : Nat) (hmc : m ≤ c) (w : World) : (Instr.slice 23 (.slice A m c) none (some (.int .i64 m)) (some (.int .i64 m))).run Try.prog w = .ok (.slice A m m) w := by
  have ht : Try.prog.underlying 23 = some (.slice (Try.prog.elem 23)) := by kernel_rfl
  have hz : (sizeOf (Try.prog.elem 23)).run Try.prog w = .ok 1 w := by kernel_rfl
  rw [run_slice_any (ht := ht)]
  have hb : (Instr.sliceBounds true m c none (some (.int .i64 m)) (some (.int .i64 m))).run Try.prog w = .ok (0, m, m) w := by
    simp [Instr.sliceBounds, run_sliceBound, Result.andThen, hmc]
  rw [hb]
  simp only [Result.andThen, hz]
  unfold sliced
  by_cases h : m = 0
  · simp [h]
  · rw [if_neg h]
    cases A with
    | none => rfl
    | some a => simp [Addr.add]

set_option maxRecDepth 100000 in
set_option maxHeartbeats 3200000 in
theorem refOrd_any {n : Nat} (hn : n ≤ 5) (hn1 : 1 ≤ n) : ∀ (d : Nat) (l : List Nat) (m : Nat) (A : Option Addr) (c : Nat) (w : World), m + d = n → l.length = m → m ≤ c → Part l n → IntsA w w.heap.size A (up l) → (A = none → m = 0) →
    Calls Try.prog 84 #[.int .i64 n, .slice A m c] w (RowsNew (ordsF n d l) A w) := by
  intro d
  induction d with
  | zero =>
    intro l m A c w hmd hlm hmc hp hA hno
    obtain rfl : n = m := by omega
    have HL := hide hlm
    have HA := hide hA
    have HP := hide hp
    have hnn : ((n : Int) == (n : Int)) = true := by simp
    clear hlm hA hp hno hmd
    go_enter Try.func84, Try.ntmps84
    go_wp2
    go_ret
    have h0 : (w.alloc (.cells #[.slice A n c] 23)).heap[w.heap.size]? = some (.cells #[.slice A n c] 23 (0, 0)) := alloc_new _ _ _ rfl
    have q0 := blk_cell h0 0
    simp only [List.getElem?_toArray, List.getElem?_cons_zero] at q0
    have one : ∀ (i : Nat) (u : Value), [Value.slice A n c][i]? = some u → i = 0 ∧ u = .slice A n c := fun i u h => by
      match i, h with
      | 0, h => exact ⟨rfl, by simpa using h.symm⟩
    refine ⟨some ⟨w.heap.size, 0, none⟩, 1, [.slice A n c], rfl, Nat.le_refl _, rfl, fun i u hu => ?_, ⟨rfl, fun i hi => ?_⟩, fun v hv => ?_, (Below.refl _ _).alloc (Nat.le_refl _) _, fun g hg => ?_⟩
    · obtain ⟨rfl, rfl⟩ := one i u hu
      exact ⟨_, 0, rfl, q0⟩
    · have hi' : i < 1 := hi
      obtain rfl : i = 0 := by omega
      have e1 : (upp (ordsF n 0 l)).getD 0 [] = up l := rfl
      rw [e1, up_length, HL.out]
      exact ⟨A, c, rfl, hmc, (HA.out.keep (fun p hp => World.cell?_alloc_lt _ _ _ hp)).more (by simp), fun _ _ _ _ e => by cases e⟩
    · simp at hv
      subst hv
      intro g hg
      cases A with
      | none => simp [Value.ownBlock] at hg
      | some a =>
        right
        have e : a.block = g := by simpa [Value.ownBlock] using hg
        have : 0 < l.length := by have := HL.out; omega
        obtain ⟨b, o, e2, _⟩ := HA.out 0 (by rw [up_length]; exact this)
        injection e2 with e2
        subst e2
        exact ⟨o, by simp at e; rw [e]⟩
    · simp [Value.ownBlock] at hg; omega
  | succ d ih =>
    intro l m A c w hmd hlm hmc hp hA hno
    have IH := hide ih
    clear ih
    have hmn : m < n := by omega
    have hne : ((m : Int) == (n : Int)) = false := by simp; omega
    have HL := hide hlm
    have HA := hide hA
    have HP := hide hp
    have HNO := hide hno
    have hsl := slice_hm A m c hmc
    clear hlm hA hp hno
    go_enter Try.func84, Try.ntmps84
    go_wp2
    go_loopw [5, 14] (fun v i wr => ∃ (k c' : Nat) (X : Option Addr) (vs : List Value), k ≤ n ∧ i = .int .i64 k ∧ v = .slice X (ordsTo n d l k).length c' ∧ (ordsTo n d l k).length ≤ c' ∧
      wr.ownsRow w.heap.size 23 1 (.slice X (ordsTo n d l k).length c') (ordsTo n d l k).length vs ∧ RowVals wr (Value.slice X (ordsTo n d l k).length c').ownBlock vs (upp (ordsTo n d l k)) ∧ Below w.heap.size w wr ∧ Hid (∀ v ∈ vs, Fresh w A v)) (fun _ i _ => n - (intOf i).toNat)
    case atStart => exact ⟨0, 0, none, [], by omega, rfl, rfl, Nat.le_refl _, World.ownsRow_nil _ _ _ _, RowVals.nil_, Below.refl _ _, fun v hv => by cases hv⟩
    case round =>
      obtain ⟨k, c', X, vs, hk, rfl, rfl, hmc', hown, hrv, hbel, hfr⟩ := hrel
      obtain ⟨M, hM⟩ : ∃ M, (ordsTo n d l k).length = M := ⟨_, rfl⟩
      rw [hM] at hown hrv hmc'
      have HM := hide hM
      have HOW := hide hown
      have HRV := hide hrv
      by_cases hlt : k < n
      · have HRK := hide (rank_any A m c w.heap.size (up l) (k : Int) wr (by rw [up_length]; exact HL.out) (by omega) (HA.out.below hbel))
        by_cases hkl : k ∈ l
        · have hix : idx (up l) (k : Int) = (place l k : Int) := idx_up_mem hkl
          rw [hix] at HRK
          have hk0 : decide (((place l k : Nat) : Int) < 0) = false := decide_eq_false (by omega)
          have HKL := hide hkl
          rw [hM]
          clear hix hkl hM hown hrv
          go_wp2_with (go_at_call 61; refine (HRK.out).mono ?_; rintro e w' ⟨rfl, rfl⟩)
          go_roundw
          case rel =>
            have hs : ordsTo n d l (k + 1) = ordsTo n d l k := by rw [ordsTo_succ, if_pos HKL.out, List.append_nil]
            refine ⟨k + 1, c', X, vs, by omega, by go_num, by rw [hs, HM.out], by rw [hs, HM.out]; exact hmc', by rw [hs, HM.out]; exact HOW.out, by rw [hs, HM.out]; exact HRV.out, hbel, hfr.out⟩
          case measure => simp [intOf] <;> omega
        · have hix : idx (up l) (k : Int) < 0 := by
            have : ¬ 0 ≤ idx (up l) (k : Int) := fun h => hkl (mem_up.1 (idx_nonneg.1 h))
            omega
          generalize idx (up l) (k : Int) = ix at *
          have hk0 : decide (ix < 0) = true := decide_eq_true hix
          have HKL : Hid (k ∉ l) := hkl
          rw [hM]
          clear hkl hM hown hrv hix
          obtain ⟨M2, hM2⟩ : ∃ M2, (ordsF n d (l ++ [k])).length = M2 := ⟨_, rfl⟩
          have hM2p : 0 < M2 := by rw [← hM2]; exact ordsF_pos d _ (HP.out.snoc hlt HKL.out) (by simp [HL.out]; omega)
          have HM2 := hide hM2
          have hM120 : M ≤ 1000000 ∧ M2 ≤ 1000000 := by rw [← HM.out, ← hM2]; exact ords_small hn (by omega) (by omega) _ _
          clear hM2
          go_wp2_with (first
            | (go_at_call 61; refine (HRK.out).mono ?_; rintro e w' ⟨rfl, rfl⟩)
            | ((with_reducible show wpList _ _ _ (⟨some 31, _, _, _, _, _⟩ :: _) _ _); refine wpList_appFull1 (w0 := wr) _ _ 23 3 (.int .i64 0) 8 rfl rfl Try.underlying23 info_int rfl A m m w.heap.size (up l) (k : Int) _ rfl rfl (by rw [up_length]; exact HL.out) HNO.out (HA.out.below hbel) (by omega) (by omega) ?_; intro g cg w1 hcg hI1 hg1 hg2 hb1; have HI1 := hide hI1; clear hI1)
            | (go_at_call 84; refine (IH.out (l ++ [k]) (m + 1) (some ⟨g, 0, none⟩) cg w1 (by omega) (by simp [HL.out]) hcg (HP.out.snoc hlt HKL.out) (by simpa [up] using HI1.out) (fun e => by cases e)).mono ?_; rintro e w2 ⟨X2, c2, us, rfl, hc2, hus, hcs, hrv2, hfr2, hb2, _⟩; rw [HM2.out] at hc2 hus; rw [HM2.out]; have HCS := hide hcs; have HRV2 := hide hrv2; have HFR2 := hide hfr2; have HUS := hide hus; clear hcs hrv2 hfr2 hus)
            | ((with_reducible show wpList _ _ _ (⟨some 33, _, _, _, _, _⟩ :: _) _ _); refine wpList_appVals _ _ 22 23 (.slice none 0 0) 24 rfl rfl Try.underlying22 info_ints rfl w.heap.size (.slice X M c') M vs rfl X2 M2 c2 us rfl HUS.out hM2p HCS.out (rowVals_one HRV2.out) (own_next (own_next HOW.out hb1) hb2) (by omega) (by omega) (by have := hbel.size; have := hb1.size; have := hb2.size; omega) ?_; intro g3 c3 w3 hown3 hc3 hg3 hgr3; have HOW3 := hide hown3; have HG3 := hide hg3; have HGR3 := hide hgr3; clear hown3 hg3 hgr3))
          go_roundw
          case rel =>
            have hs : ordsTo n d l (k + 1) = ordsTo n d l k ++ ordsF n d (l ++ [k]) := by rw [ordsTo_succ, if_neg HKL.out]
            have hl : (ordsTo n d l (k + 1)).length = M + M2 := by rw [hs, List.length_append, HM.out, HM2.out]
            have hob : ∀ q, (Value.slice X M c').ownBlock = some q → w.heap.size ≤ q ∧ q < wr.heap.size := own_lt HOW.out
            have hfar : ∀ v ∈ us, ∀ q, v.ownBlock = some q → wr.heap.size ≤ q := fun v hv q hq => by
              rcases HFR2.out v hv q hq with h | ⟨o, h⟩
              · have := hb1.size; omega
              · injection h with h; injection h with h _ _; omega
            have hus2 : RowVals w2 (Value.slice X M c').ownBlock us (upp (ordsF n d (l ++ [k]))) := HRV2.out.off fun A' n' c'' hv q hq e => by
              have h1 := hfar _ hv q hq
              have h2 := (hob q e.symm).2
              omega
            have hup : upp (ordsTo n d l (k + 1)) = upp (ordsTo n d l k) ++ upp (ordsF n d (l ++ [k])) := by rw [hs]; simp [upp]
            refine ⟨k + 1, c3, some ⟨g3, 0, none⟩, vs ++ us, by omega, by go_num, by rw [hl], by rw [hl]; exact hc3, by rw [hl]; exact HOW3.out, ?_, ?_, fun v hv => ?_⟩
            · rw [hup]
              exact (((HRV.out.next hb1).next hb2).also hus2).grown HGR3.out HG3.out
            · exact ((hbel.trans (hb1.mono hbel.size)).trans (hb2.mono (by have := hbel.size; have := hb1.size; omega))).grown HGR3.out (by have := hbel.size; have := hb1.size; have := hb2.size; omega) (fun q hq => (hob q hq).1)
            · rcases List.mem_append.1 hv with hv | hv
              · exact hfr.out v hv
              · intro q hq
                exact .inl (Nat.le_trans hbel.size (hfar v hv q hq))
          case measure => simp [intOf] <;> omega
      · obtain rfl : n = k := by omega
        rw [hM]
        clear hM hown hrv
        go_wp2
        go_ret
        rw [RowsNew, ← ordsTo_full, HM.out]
        exact ⟨X, c', vs, rfl, hmc', by have := HOW.out.1; omega, own_cells HOW.out, rowVals_none HRV.out, hfr.out, hbel, fun g hg => (own_lt HOW.out g hg).1⟩
set_option maxHeartbeats 400000 in
theorem refOrders_any {n : Nat} (hn : n ≤ 5) (hn1 : 1 ≤ n) (w : World) : Calls Try.prog 58 #[.int .i64 n] w (RowsNew (ordsN n) none w) := by
  have HO := hide (refOrd_any hn hn1 n [] 0 none 0 w (by omega) rfl (Nat.le_refl _) (Part.nil_ n) IntsA.nil_ (fun _ => rfl))
  go_enter Try.func58, Try.ntmps58
  go_wp2_with (go_at_call 84; refine (HO.out).mono ?_; rintro e w1 ⟨X, c, vs, rfl, h1, h2, h3, h4, h5, h6, h7⟩; have H7 := hide h7; clear h7; have H1 := hide h1; have H2 := hide h2; have H3 := hide h3; have H4 := hide h4; have H5 := hide h5; clear h1 h2 h3 h4 h5)
  go_ret
  exact ⟨X, c, vs, rfl, H1.out, H2.out, H3.out, H4.out, H5.out, h6, H7.out⟩
end Go.Proofs.Ytilnbiaabhdfgaa
