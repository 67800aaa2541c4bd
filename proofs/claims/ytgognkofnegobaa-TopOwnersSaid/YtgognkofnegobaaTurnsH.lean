/-
  turns: the search for stable matchings, where every hand has a shift or none.
-/
import Derived.Test.YtgognkofnegobaaTurnsG
import Derived.Test.YtgognkofnegobaaAppS
import Derived.Deep.RegionHeld3
namespace Go.Proofs.Ytgognkofnegobaa
open Go.RowKit
set_option linter.unusedVariables false
set_option linter.unusedSimpArgs false

/-- What the search leaves. -/
def TryPost (B : Nat) (HA SA PA : Option Addr) (n hc sc pc : Nat) (H S : List (List Nat)) (h d : Nat) (p : List Int) (L : List (List Int)) (w : World) (e : Ending) (w' : World) : Prop :=
  ∃ q X j c vs, e = .returned (.tuple #[]) ∧ q.take h = p ∧ StM w' B HA SA PA n hc sc pc H S q (L ++ (enumM n d p).filter (stabB H S n)) X j c vs ∧ Below B w w'

theorem StM.push {w w1 : World} {B : Nat} {HA SA PA : Option Addr} {n hc sc pc : Nat} {H S : List (List Nat)} {q : List Int} {L : List (List Int)} {X : Option Addr} {j c : Nat} {vs : List Value} {A : Option Addr} {ca g cg : Nat} {l : List Int}
    (h : StM w B HA SA PA n hc sc pc H S q L X j c vs) (hl : l.length = n) (hca : n ≤ ca) (hA : IntsA w w.heap.size A l) (hlow : ∀ k, (Value.slice A n ca).ownBlock = some k → B + 5 ≤ k ∧ (Value.slice X j c).ownBlock ≠ some k)
    (hown : w1.ownsRow (B + 5) 24 1 (.slice (some ⟨g, 0, none⟩) (j + 1) cg) (j + 1) (vs ++ [.slice A n ca])) (hcg : j + 1 ≤ cg) (hg1 : (Value.slice X j c).ownBlock = some g ∨ w.heap.size ≤ g) (hgr : w.grownBy w1 (Value.slice X j c).ownBlock) :
    StM (w1.setCell ⟨B + 1, 0, none⟩ (.slice (some ⟨g, 0, none⟩) (j + 1) cg)) B HA SA PA n hc sc pc H S q (L ++ [l]) (some ⟨g, 0, none⟩) (j + 1) cg (vs ++ [.slice A n ca]) := by
  have htl := lt_of_block h.tb
  have low : ∀ k, k < B + 5 → (Value.slice X j c).ownBlock ≠ some k := fun k hk e => by have := (own_lt h.own k e).1; omega
  have k1 : ∀ k, k < w.heap.size → (Value.slice X j c).ownBlock ≠ some k → k ≠ B + 1 → (w1.setCell ⟨B + 1, 0, none⟩ (.slice (some ⟨g, 0, none⟩) (j + 1) cg)).heap[k]? = w.heap[k]? := fun k hk h1 h2 =>
    (blk_far _ h2).trans (hgr.block k hk (fun e => h1 e.symm))
  have hgB : B + 5 ≤ g := by
    rcases hg1 with h1 | h1
    · exact (own_lt h.own g h1).1
    · omega
  have hb : Below (B + 1) w (w1.setCell ⟨B + 1, 0, none⟩ (.slice (some ⟨g, 0, none⟩) (j + 1) cg)) :=
    ((Below.refl (B + 1) w).grown hgr (by omega) (fun k hk => by have := (own_lt h.own k hk).1; omega)).setCell (by show B + 1 ≤ B + 1; omega) _
  have hrv := h.rv.snoc hgr hg1 hl hca hA (fun _ => off_own (n := n) (c := ca) fun k hk e => (hlow k hk).2 e.symm)
  refine ⟨h.pl.below (hb.mono (by omega)), (k1 _ (by omega) (low _ (by omega)) (by omega)).trans h.pb, ?_, h.mr.of_block (k1 _ (by omega) (low _ (by omega)) (by omega)), (k1 _ (by omega) (low _ (by omega)) (by omega)).trans h.mb, (k1 _ (by omega) (low _ (by omega)) (by omega)).trans h.tb,
    own_keepS hown (fun k hk => blk_far _ (by have := (own_lt hown k hk).1; omega)), ?_, ?_, by simp [h.jl], hcg, h.ql⟩
  · exact blk_set ((hgr.block _ (by omega) (fun e => low (B + 1) (by omega) e.symm)).trans h.ob) 0 _
  · refine ⟨hrv.1, fun i hi => ?_⟩
    obtain ⟨A', c', h1, h2, h3, h4⟩ := hrv.2 i hi
    refine ⟨A', c', h1, h2, fun x hx => ?_, h4⟩
    obtain ⟨b, o, e, h5, h6⟩ := h3 x hx
    have hbl : B + 5 ≤ b := by
      rw [List.length_append, List.length_cons, List.length_nil] at hi
      by_cases hlt : i < L.length
      · rw [List.getElem?_append_left (by rw [h.rv.1]; exact hlt)] at h1
        have e1 : (L ++ [l]).getD i [] = L.getD i [] := by simp [List.getD_eq_getElem?_getD, List.getElem?_append_left hlt]
        rw [e1] at hx
        exact h.low i hlt A' _ c' h1 (Nat.lt_of_le_of_lt (Nat.zero_le x) hx) b o e
      · obtain rfl : i = L.length := by omega
        rw [List.getElem?_append_right (by rw [h.rv.1]; exact Nat.le_refl _), h.rv.1, Nat.sub_self] at h1
        injection h1 with h1
        injection h1 with e2 e3 e4
        exact (hlow b (by rw [e2, e]; rfl)).1
    exact ⟨b, o, e, by simpa [World.setCell] using h5, (World.cell?_of_block (w := w1) (a := ⟨b, o + x, none⟩) (blk_far (b := b) _ (by omega))).trans h6⟩
  · intro i hi A' n' c' hv h0 b o e
    rw [List.length_append, List.length_cons, List.length_nil] at hi
    by_cases hlt : i < L.length
    · rw [List.getElem?_append_left (by rw [h.rv.1]; exact hlt)] at hv
      have e1 : (L ++ [l]).getD i [] = L.getD i [] := by simp [List.getD_eq_getElem?_getD, List.getElem?_append_left hlt]
      rw [e1] at h0
      exact h.low i hlt A' n' c' hv h0 b o e
    · obtain rfl : i = L.length := by omega
      rw [List.getElem?_append_right (by rw [h.rv.1]; exact Nat.le_refl _), h.rv.1, Nat.sub_self] at hv
      injection hv with hv
      injection hv with e2 e3 e4
      exact (hlow b (by rw [e2, e]; rfl)).1

theorem goes_try : Goes Try.prog 64 := goes_of Try.func64 (by kernel_rfl) (by kernel_rfl)

set_option maxRecDepth 100000 in
set_option maxHeartbeats 1600000 in
theorem try_zero (B : Nat) (HA SA PA : Option Addr) (n hc sc pc : Nat) (H S : List (List Nat)) (q : List Int) (L : List (List Int)) (X : Option Addr) (j c : Nat) (vs : List Value) (w : World) (hn : n ≤ 4) (hn1 : 1 ≤ n) (hm : MPart q n n) (hj : L.length ≤ 1000) (hM : StM w B HA SA PA n hc sc pc H S q L X j c vs) :
    Calls Try.prog 64 #[.int .i64 (n : Nat), .pointer (some ⟨B + 3, 0, none⟩), .pointer (some ⟨B, 0, none⟩), .pointer (some ⟨B + 1, 0, none⟩), .pointer (some ⟨B + 4, 0, none⟩)] w (TryPost B HA SA PA n hc sc pc H S n 0 q L w) := by
  have hj9 : j ≤ 1000 := by rw [← hM.jl]; exact hj
  have htl := lt_of_block hM.tb
  have hmo : MOk q n := ⟨hm.len, hm.at_⟩
  have hIM : IntsA w w.heap.size (some ⟨B + 2, 0, none⟩) q := ints_of_row hM.mr hM.ql.symm fun i hi => rfl
  have HIS := hide (isStable_any HA SA PA n hc sc pc H S (some ⟨B + 2, 0, none⟩) n q w hn hn1 (hM.pl.more (by omega)) hmo hIM)
  have p0 := blk_cell hM.pb 0
  have p1 := blk_cell hM.pb 1
  have p2 := blk_cell hM.pb 2
  have m0 := blk_cell hM.mb 0
  simp only [List.getElem?_toArray, List.getElem?_cons_zero, List.getElem?_cons_succ] at p0 p1 p2 m0
  have hnn : ((n : Int) == (n : Int)) = true := by simp
  have HM := hide hM
  have HMP := hide hm
  have HQT : Hid (q.take n = q) := List.take_of_length_le (by rw [hM.ql]; exact Nat.le_refl _)
  obtain ⟨b, hb⟩ : ∃ b, stabB H S n q = b := ⟨_, rfl⟩
  rw [hb] at HIS
  have HFI : Hid ((enumM n 0 q).filter (stabB H S n) = if b then [q] else []) := by
    show [q].filter (stabB H S n) = _
    cases b
    · rw [List.filter_cons_of_neg (by rw [hb]; simp)]; rfl
    · rw [List.filter_cons_of_pos hb]; rfl
  clear hM hm hmo hIM hb hj
  go_enter Try.func64, Try.ntmps64
  cases b
  · go_wp2_with (go_at_call 65; refine (HIS.out).mono ?_; rintro e w2 ⟨rfl, hb2⟩; have HB2 := hide hb2; clear hb2)
    go_end0
    refine ⟨q, X, j, c, vs, rfl, HQT.out, ?_, HB2.out.mono (by omega)⟩
    rw [HFI.out, if_neg (by simp), List.append_nil]
    exact HM.out.next HB2.out
  · go_wp2_with (go_at_call 65; refine (HIS.out).mono ?_; rintro e w2 ⟨rfl, hb2⟩; have HB2 := hide hb2; clear hb2)
    have hM2 := HM.out.next HB2.out
    have HM2 := hide hM2
    have o2 := blk_cell hM2.ob 0
    have m2 := blk_cell hM2.mb 0
    have htl2 := lt_of_block hM2.tb
    simp only [List.getElem?_toArray, List.getElem?_cons_zero, List.getElem?_cons_succ] at o2 m2
    have HCL : Hid (∀ w', Below w2.heap.size w2 w' → Calls Try.prog 22 #[.slice (some ⟨B + 2, 0, none⟩) n n] w' fun e w3 => ∃ A' c', e = .returned (.slice A' n c') ∧ n ≤ c' ∧ IntsA w3 w3.heap.size A' q ∧ Below w'.heap.size w' w3 ∧ ∀ g, (Value.slice A' n c').ownBlock = some g → w'.heap.size ≤ g) := fun w' hb' =>
      (clone_any (some ⟨B + 2, 0, none⟩) n n w'.heap.size q w' hM2.ql (by omega) ((ints_of_row hM2.mr hM2.ql.symm fun i hi => rfl).next hb')).mono fun e w3 ⟨A', c', h1, h2, h3, h4, h5, h6⟩ => ⟨A', c', h1, h2, h3, h5, h6⟩
    have HM3 : Hid (∀ w', Below w2.heap.size w2 w' → w'.cell? ⟨B + 3, 0, none⟩ = some (.slice (some ⟨B + 2, 0, none⟩) n n)) := fun w' hb' => (hb'.cell (p := ⟨B + 3, 0, none⟩) (by show B + 3 < _; omega)).trans m2
    have HO3 : Hid (∀ w', Below w2.heap.size w2 w' → w'.cell? ⟨B + 1, 0, none⟩ = some (.slice X j c)) := fun w' hb' => (hb'.cell (p := ⟨B + 1, 0, none⟩) (by show B + 1 < _; omega)).trans o2
    clear hM2 o2 m2 p0 p1 p2 m0 HIS
    refine wp_region_noPanic ?_
    refine wp_region_held_drew (S := (fun w' => w'.cell? ⟨B + 3, 0, none⟩ = some (.slice (some ⟨B + 2, 0, none⟩) n n))) (by kernel_rfl) (HM3.out _ (Below.refl _ w2).drew) (fun hHeld => ?_)
    show wpAnyH _ _ _ _ _ _ (#[false, false, false, false, false, false] : Array Bool) _ _
    refine wpAnyH_take (i := 1) (v := .slice (some ⟨B + 2, 0, none⟩) n n) rfl (by kernel_rfl) (by kernel_rfl) (by kernel_rfl) (fun _ _ _ h => h) (Or.inl ⟨by rfl, ?_⟩) hHeld ?_
    · (intro w' hSw; have y1 := hSw; go_simp)
    try simp only [Act.put, List.setIfInBounds_toArray, List.set_cons_zero, List.set_cons_succ]
    have hBd : Below w2.heap.size w2 w2.drew := (Below.refl _ w2).drew
    refine wpAnyH_ready (rs := [0, 2]) (by kernel_rfl) (by simp) ?_
    refine (AllReadyH.cons rfl (fun K hK => ?_) (AllReadyH.cons rfl (fun K hK => ?_) AllReadyH.nil))
    · clear hHeld
      have o3 := HO3.out _ hBd
      go_simp
      clear o3
      refine hK.out _ _ (HM3.out _ hBd) (fun hHeld => ?_)
      clear hK K
      try simp only [Act.put, List.setIfInBounds_toArray, List.set_cons_zero, List.set_cons_succ]
      refine wpAnyH_ready (rs := [2]) (by kernel_rfl) (by simp) ?_
      refine (AllReadyH.cons rfl (fun K hK => ?_) AllReadyH.nil)
      clear hHeld
      go_simp
      refine (HCL.out _ hBd).mono ?_
      rintro e w5 ⟨A5, c5, rfl, hc5, hI5, hb5, hl5⟩
      have HB5 := hide (hBd.trans (hb5.mono (hBd.size)))
      have HI5 := hide hI5
      have HL5 : Hid (∀ g, (Value.slice A5 n c5).ownBlock = some g → w2.heap.size ≤ g) := fun g hg => Nat.le_trans (hBd.size) (hl5 g hg)
      clear hI5 hb5 hl5
      try go_wp2_with fail
      refine hK.out _ _ (HM3.out _ HB5.out) (fun hHeld => ?_)
      clear hK K
      try simp only [Act.put, List.setIfInBounds_toArray, List.set_cons_zero, List.set_cons_succ]
      refine wpAnyH_ready (rs := [3]) (by kernel_rfl) (by simp) ?_
      refine (AllReadyH.cons rfl (fun K hK => ?_) AllReadyH.nil)
      clear hHeld
      go_simp
      refine hK.out _ _ (HM3.out _ (HB5.out.alloc HB5.out.size (.cells #[.slice A5 n c5] 24))) (fun hHeld => ?_)
      clear hK K
      try simp only [Act.put, List.setIfInBounds_toArray, List.set_cons_zero, List.set_cons_succ]
      refine wpAnyH_ready (rs := [4]) (by kernel_rfl) (by simp) ?_
      refine (AllReadyH.cons rfl (fun K hK => ?_) AllReadyH.nil)
      clear hHeld
      have hone : ∀ u ∈ ([.slice A5 n c5] : List Value), u.oneCell' = true := by simp [Value.oneCell']
      have HM5 := hide (HM2.out.next HB5.out)
      refine wp_appS (w0 := w5) _ _ 22 24 (.slice none 0 0) 1 24 rfl Try.underlying22 info_ints rfl (by decide) (B + 5) (.slice X j c) j vs [.slice A5 n c5] rfl (by simp [Act.eval]) (by simp [Act.eval]) rfl ⟨_, rfl⟩ HM5.out.own hone (by omega) (by omega) (by have := HB5.out.size; omega) ?_
      intro ga cg w7 hown hd1 hd2 hg1 hgl hgrow
      have HMF := hide (HM5.out.push HMP.out.len hc5 HI5.out (fun k hk => ⟨by have := HL5.out k hk; omega, fun e => by have h1 := HL5.out k hk; have h2 := (own_lt HM2.out.own k e).2; omega⟩) hown hd1 hg1 hgrow)
      have h71 : w7.heap[B + 1]? = some (.cells #[.slice X j c] 22 (0, 0)) := (hgrow.block _ (by have := HB5.out.size; omega) (fun e => by have := (own_lt HM5.out.own _ e.symm).1; omega)).trans HM5.out.ob
      have c71 := blk_cell h71 0
      have f71 := blk_free h71 0
      simp only [List.getElem?_toArray, List.getElem?_cons_zero] at c71
      have m73 : w7.cell? ⟨B + 3, 0, none⟩ = some (.slice (some ⟨B + 2, 0, none⟩) n n) := by
        have := blk_cell ((hgrow.block _ (by have := HB5.out.size; omega) (fun e => by have := (own_lt HM5.out.own _ e.symm).1; omega)).trans HM5.out.mb) 0
        simpa using this
      have HBF : Hid (Below B w (w7.setCell ⟨B + 1, 0, none⟩ (.slice (some ⟨ga, 0, none⟩) (j + 1) cg))) := ((((HB2.out.mono (by omega)).trans (HB5.out.mono (by omega))).grown hgrow (by have := HB5.out.size; omega) (fun k hk => by have := (own_lt HM5.out.own k hk).1; omega)).setCell (by show B ≤ B + 1; omega) _)
      clear hown hgrow hg1 h71
      refine hK.out _ _ m73 (fun hHeld => ?_)
      clear hK K
      try simp only [Act.put, List.setIfInBounds_toArray, List.set_cons_zero, List.set_cons_succ]
      refine wpAnyH_ready (rs := [5]) (by kernel_rfl) (by simp) ?_
      refine (AllReadyH.cons rfl (fun K hK => ?_) AllReadyH.nil)
      clear hHeld
      go_simp
      refine hK.out _ _ (by rw [World.cell?_of_block (w := w7) (blk_far _ (by show B + 3 ≠ B + 1; omega))]; exact m73) (fun hHeld => ?_)
      clear hK K
      try simp only [Act.put, List.setIfInBounds_toArray, List.set_cons_zero, List.set_cons_succ]
      refine wpAnyH_done (by kernel_rfl) ?_ _
      refine NoPanic.normal ?_
      go_wp2_with fail
      go_end0
      exact ⟨q, _, _, _, _, rfl, HQT.out, by rw [HFI.out, if_pos trivial]; exact HMF.out, HBF.out⟩
    · clear hHeld
      go_simp
      refine (HCL.out _ hBd).mono ?_
      rintro e w5 ⟨A5, c5, rfl, hc5, hI5, hb5, hl5⟩
      have HB5 := hide (hBd.trans (hb5.mono (hBd.size)))
      have HI5 := hide hI5
      have HL5 : Hid (∀ g, (Value.slice A5 n c5).ownBlock = some g → w2.heap.size ≤ g) := fun g hg => Nat.le_trans (hBd.size) (hl5 g hg)
      clear hI5 hb5 hl5
      try go_wp2_with fail
      refine hK.out _ _ (HM3.out _ HB5.out) (fun hHeld => ?_)
      clear hK K
      try simp only [Act.put, List.setIfInBounds_toArray, List.set_cons_zero, List.set_cons_succ]
      refine wpAnyH_ready (rs := [0, 3]) (by kernel_rfl) (by simp) ?_
      refine (AllReadyH.cons rfl (fun K hK => ?_) (AllReadyH.cons rfl (fun K hK => ?_) AllReadyH.nil))
      · clear hHeld
        have o3 := HO3.out _ HB5.out
        go_simp
        clear o3
        refine hK.out _ _ (HM3.out _ HB5.out) (fun hHeld => ?_)
        clear hK K
        try simp only [Act.put, List.setIfInBounds_toArray, List.set_cons_zero, List.set_cons_succ]
        refine wpAnyH_ready (rs := [3]) (by kernel_rfl) (by simp) ?_
        refine (AllReadyH.cons rfl (fun K hK => ?_) AllReadyH.nil)
        clear hHeld
        go_simp
        refine hK.out _ _ (HM3.out _ (HB5.out.alloc HB5.out.size (.cells #[.slice A5 n c5] 24))) (fun hHeld => ?_)
        clear hK K
        try simp only [Act.put, List.setIfInBounds_toArray, List.set_cons_zero, List.set_cons_succ]
        refine wpAnyH_ready (rs := [4]) (by kernel_rfl) (by simp) ?_
        refine (AllReadyH.cons rfl (fun K hK => ?_) AllReadyH.nil)
        clear hHeld
        have hone : ∀ u ∈ ([.slice A5 n c5] : List Value), u.oneCell' = true := by simp [Value.oneCell']
        have HM5 := hide (HM2.out.next HB5.out)
        refine wp_appS (w0 := w5) _ _ 22 24 (.slice none 0 0) 1 24 rfl Try.underlying22 info_ints rfl (by decide) (B + 5) (.slice X j c) j vs [.slice A5 n c5] rfl (by simp [Act.eval]) (by simp [Act.eval]) rfl ⟨_, rfl⟩ HM5.out.own hone (by omega) (by omega) (by have := HB5.out.size; omega) ?_
        intro ga cg w7 hown hd1 hd2 hg1 hgl hgrow
        have HMF := hide (HM5.out.push HMP.out.len hc5 HI5.out (fun k hk => ⟨by have := HL5.out k hk; omega, fun e => by have h1 := HL5.out k hk; have h2 := (own_lt HM2.out.own k e).2; omega⟩) hown hd1 hg1 hgrow)
        have h71 : w7.heap[B + 1]? = some (.cells #[.slice X j c] 22 (0, 0)) := (hgrow.block _ (by have := HB5.out.size; omega) (fun e => by have := (own_lt HM5.out.own _ e.symm).1; omega)).trans HM5.out.ob
        have c71 := blk_cell h71 0
        have f71 := blk_free h71 0
        simp only [List.getElem?_toArray, List.getElem?_cons_zero] at c71
        have m73 : w7.cell? ⟨B + 3, 0, none⟩ = some (.slice (some ⟨B + 2, 0, none⟩) n n) := by
          have := blk_cell ((hgrow.block _ (by have := HB5.out.size; omega) (fun e => by have := (own_lt HM5.out.own _ e.symm).1; omega)).trans HM5.out.mb) 0
          simpa using this
        have HBF : Hid (Below B w (w7.setCell ⟨B + 1, 0, none⟩ (.slice (some ⟨ga, 0, none⟩) (j + 1) cg))) := ((((HB2.out.mono (by omega)).trans (HB5.out.mono (by omega))).grown hgrow (by have := HB5.out.size; omega) (fun k hk => by have := (own_lt HM5.out.own k hk).1; omega)).setCell (by show B ≤ B + 1; omega) _)
        clear hown hgrow hg1 h71
        refine hK.out _ _ m73 (fun hHeld => ?_)
        clear hK K
        try simp only [Act.put, List.setIfInBounds_toArray, List.set_cons_zero, List.set_cons_succ]
        refine wpAnyH_ready (rs := [5]) (by kernel_rfl) (by simp) ?_
        refine (AllReadyH.cons rfl (fun K hK => ?_) AllReadyH.nil)
        clear hHeld
        go_simp
        refine hK.out _ _ (by rw [World.cell?_of_block (w := w7) (blk_far _ (by show B + 3 ≠ B + 1; omega))]; exact m73) (fun hHeld => ?_)
        clear hK K
        try simp only [Act.put, List.setIfInBounds_toArray, List.set_cons_zero, List.set_cons_succ]
        refine wpAnyH_done (by kernel_rfl) ?_ _
        refine NoPanic.normal ?_
        go_wp2_with fail
        go_end0
        exact ⟨q, _, _, _, _, rfl, HQT.out, by rw [HFI.out, if_pos trivial]; exact HMF.out, HBF.out⟩
      · clear hHeld
        go_simp
        refine hK.out _ _ (HM3.out _ (HB5.out.alloc HB5.out.size (.cells #[.slice A5 n c5] 24))) (fun hHeld => ?_)
        clear hK K
        try simp only [Act.put, List.setIfInBounds_toArray, List.set_cons_zero, List.set_cons_succ]
        refine wpAnyH_ready (rs := [0]) (by kernel_rfl) (by simp) ?_
        refine (AllReadyH.cons rfl (fun K hK => ?_) AllReadyH.nil)
        clear hHeld
        have o3 := HO3.out _ (HB5.out.alloc HB5.out.size (.cells #[.slice A5 n c5] 24))
        go_simp
        clear o3
        refine hK.out _ _ (HM3.out _ (HB5.out.alloc HB5.out.size (.cells #[.slice A5 n c5] 24))) (fun hHeld => ?_)
        clear hK K
        try simp only [Act.put, List.setIfInBounds_toArray, List.set_cons_zero, List.set_cons_succ]
        refine wpAnyH_ready (rs := [4]) (by kernel_rfl) (by simp) ?_
        refine (AllReadyH.cons rfl (fun K hK => ?_) AllReadyH.nil)
        clear hHeld
        have hone : ∀ u ∈ ([.slice A5 n c5] : List Value), u.oneCell' = true := by simp [Value.oneCell']
        have HM5 := hide (HM2.out.next HB5.out)
        refine wp_appS (w0 := w5) _ _ 22 24 (.slice none 0 0) 1 24 rfl Try.underlying22 info_ints rfl (by decide) (B + 5) (.slice X j c) j vs [.slice A5 n c5] rfl (by simp [Act.eval]) (by simp [Act.eval]) rfl ⟨_, rfl⟩ HM5.out.own hone (by omega) (by omega) (by have := HB5.out.size; omega) ?_
        intro ga cg w7 hown hd1 hd2 hg1 hgl hgrow
        have HMF := hide (HM5.out.push HMP.out.len hc5 HI5.out (fun k hk => ⟨by have := HL5.out k hk; omega, fun e => by have h1 := HL5.out k hk; have h2 := (own_lt HM2.out.own k e).2; omega⟩) hown hd1 hg1 hgrow)
        have h71 : w7.heap[B + 1]? = some (.cells #[.slice X j c] 22 (0, 0)) := (hgrow.block _ (by have := HB5.out.size; omega) (fun e => by have := (own_lt HM5.out.own _ e.symm).1; omega)).trans HM5.out.ob
        have c71 := blk_cell h71 0
        have f71 := blk_free h71 0
        simp only [List.getElem?_toArray, List.getElem?_cons_zero] at c71
        have m73 : w7.cell? ⟨B + 3, 0, none⟩ = some (.slice (some ⟨B + 2, 0, none⟩) n n) := by
          have := blk_cell ((hgrow.block _ (by have := HB5.out.size; omega) (fun e => by have := (own_lt HM5.out.own _ e.symm).1; omega)).trans HM5.out.mb) 0
          simpa using this
        have HBF : Hid (Below B w (w7.setCell ⟨B + 1, 0, none⟩ (.slice (some ⟨ga, 0, none⟩) (j + 1) cg))) := ((((HB2.out.mono (by omega)).trans (HB5.out.mono (by omega))).grown hgrow (by have := HB5.out.size; omega) (fun k hk => by have := (own_lt HM5.out.own k hk).1; omega)).setCell (by show B ≤ B + 1; omega) _)
        clear hown hgrow hg1 h71
        refine hK.out _ _ m73 (fun hHeld => ?_)
        clear hK K
        try simp only [Act.put, List.setIfInBounds_toArray, List.set_cons_zero, List.set_cons_succ]
        refine wpAnyH_ready (rs := [5]) (by kernel_rfl) (by simp) ?_
        refine (AllReadyH.cons rfl (fun K hK => ?_) AllReadyH.nil)
        clear hHeld
        go_simp
        refine hK.out _ _ (by rw [World.cell?_of_block (w := w7) (blk_far _ (by show B + 3 ≠ B + 1; omega))]; exact m73) (fun hHeld => ?_)
        clear hK K
        try simp only [Act.put, List.setIfInBounds_toArray, List.set_cons_zero, List.set_cons_succ]
        refine wpAnyH_done (by kernel_rfl) ?_ _
        refine NoPanic.normal ?_
        go_wp2_with fail
        go_end0
        exact ⟨q, _, _, _, _, rfl, HQT.out, by rw [HFI.out, if_pos trivial]; exact HMF.out, HBF.out⟩
end Go.Proofs.Ytgognkofnegobaa
