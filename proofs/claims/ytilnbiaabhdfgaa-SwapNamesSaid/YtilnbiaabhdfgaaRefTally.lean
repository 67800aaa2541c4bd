/-
  The reference's table, Chances and Given.
-/
import Derived.Test.YtilnbiaabhdfgaaRefOrders
import Derived.Test.YtilnbiaabhdfgaaRefChoose
import Derived.Test.YtilnbiaabhdfgaaRefTraded
import Derived.Test.YtilnbiaabhdfgaaTallyApi
import Derived.Test.YtilnbiaabhdfgaaParetoPlain
namespace Go.Proofs.Ytilnbiaabhdfgaa
open Go.RowKit
set_option linter.unusedVariables false
set_option linter.unusedSimpArgs false

/-- The rows that have been made: k of them, all noughts. -/
structure TabB (w wr : World) (n k : Nat) (ib : Nat → Nat) (X : Option Addr) (c : Nat) : Prop where
  own : wr.ownsRow w.heap.size 23 1 (.slice X k c) k ((List.range k).map fun i => Value.slice (some ⟨ib i, 0, none⟩) n n)
  rows : ∀ i, i < k → wr.rowIs (ib i) 3 n (fun _ => .int .i64 0)
  ne : ∀ i, i < k → w.heap.size ≤ ib i ∧ (Value.slice X k c).ownBlock ≠ some (ib i)
  inj : ∀ i j, i < k → j < k → ib i = ib j → i = j
  bel : Below w.heap.size w wr
theorem TabB.step {w wr w1 : World} {n k c g cg : Nat} {ib : Nat → Nat} {X : Option Addr} (h : TabB w wr n k ib X c)
    (hown : w1.ownsRow w.heap.size 23 1 (.slice (some ⟨g, 0, none⟩) (k + 1) cg) (k + 1) (((List.range k).map fun i => Value.slice (some ⟨ib i, 0, none⟩) n n) ++ [.slice (some ⟨wr.heap.size, 0, none⟩) n n]))
    (hg : (Value.slice X k c).ownBlock = some g ∨ (wr.alloc (.cells (madeCells #[.int .i64 0] n) 3)).heap.size ≤ g) (hgr : (wr.alloc (.cells (madeCells #[.int .i64 0] n) 3)).grownBy w1 (Value.slice X k c).ownBlock) :
    TabB w w1 n (k + 1) (fun i => if i = k then wr.heap.size else ib i) (some ⟨g, 0, none⟩) cg := by
  have hs := h.bel.size
  have hsa : (wr.alloc (.cells (madeCells #[.int .i64 0] n) 3)).heap.size = wr.heap.size + 1 := by simp
  rw [hsa] at hg
  have ob : ∀ q, (Value.slice X k c).ownBlock = some q → w.heap.size ≤ q ∧ q < wr.heap.size := fun q hq => own_lt h.own q hq
  have keep : ∀ q, q < wr.heap.size + 1 → (Value.slice X k c).ownBlock ≠ some q → w1.heap[q]? = (wr.alloc (.cells (madeCells #[.int .i64 0] n) 3)).heap[q]? := fun q h1 h2 =>
    hgr.block q (by rw [hsa]; exact h1) (fun e => h2 e.symm)
  have hnew := World.rowIs_made wr (.int .i64 0) n 3
  have hnn : (Value.slice X k c).ownBlock ≠ some wr.heap.size := fun e => by have := (ob _ e).2; omega
  have ibl : ∀ i, i < k → ib i < wr.heap.size := fun i hi => (h.rows i hi).lt
  refine ⟨?_, fun i hi => ?_, fun i hi => ?_, fun i j hi hj e => ?_, ?_⟩
  · have e : ((List.range (k + 1)).map fun i => Value.slice (some ⟨if i = k then wr.heap.size else ib i, 0, none⟩) n n) = ((List.range k).map fun i => Value.slice (some ⟨ib i, 0, none⟩) n n) ++ [.slice (some ⟨wr.heap.size, 0, none⟩) n n] := by
      rw [List.range_succ, List.map_append]
      congr 1
      · refine List.map_congr_left fun i hi => ?_
        have : i ≠ k := by have := List.mem_range.1 hi; omega
        rw [if_neg this]
      · simp
    rw [e]; exact hown
  · by_cases e : i = k
    · subst e
      rw [if_pos rfl]
      exact hnew.of_block (keep _ (by omega) hnn)
    · rw [if_neg e]
      have hik : i < k := by omega
      have h1 := ibl i hik
      have h2 := h.ne i hik
      exact (h.rows i hik).of_block ((keep _ (by omega) h2.2).trans (Below.heap_alloc wr _ _ h1))
  · by_cases e : i = k
    · subst e
      rw [if_pos rfl]
      refine ⟨by omega, fun e2 => ?_⟩
      have e9 : g = wr.heap.size := by simpa [Value.ownBlock] using e2
      rcases hg with hg | hg
      · have := (ob g hg).2; omega
      · omega
    · rw [if_neg e]
      have hik : i < k := by omega
      have h1 := ibl i hik
      have h2 := h.ne i hik
      refine ⟨h2.1, fun e2 => ?_⟩
      have e9 : g = ib i := by simpa [Value.ownBlock] using e2
      rcases hg with hg | hg
      · rw [e9] at hg; exact h2.2 hg
      · omega
  · by_cases ei : i = k
    · by_cases ej : j = k
      · omega
      · rw [if_pos ei, if_neg ej] at e
        have := ibl j (by omega)
        omega
    · by_cases ej : j = k
      · rw [if_neg ei, if_pos ej] at e
        have := ibl i (by omega)
        omega
      · rw [if_neg ei, if_neg ej] at e
        exact h.inj i j (by omega) (by omega) e
  · exact (h.bel.alloc hs _).grown hgr (by rw [hsa]; omega) (fun q hq => (ob q hq).1)

set_option maxHeartbeats 1600000 in
theorem table_any {n : Nat} (hn : n ≤ 5) (w : World) : Calls Try.prog 57 #[.int .i64 n] w fun e w' => ∃ ib X c, e = .returned (.slice X n c) ∧ TabB w w' n n ib X c := by
  have hmk := run_make_row' (P := Try.prog) 23 3 (.int .i64 0) 8 Try.underlying23 info_int rfl .i64 .i64 n (by omega) (by omega)
  go_enter Try.func57, Try.ntmps57
  go_wp2
  go_loopw [3, 5] (fun v i wr => ∃ (k : Nat) (ib : Nat → Nat) (X : Option Addr) (c' : Nat), k ≤ n ∧ i = .int .i64 k ∧ v = .slice X k c' ∧ TabB w wr n k ib X c') (fun _ i _ => n - (intOf i).toNat)
  case atStart => exact ⟨0, fun _ => 0, none, 0, Nat.zero_le _, rfl, rfl, World.ownsRow_nil _ _ _ _, fun i hi => by omega, fun i hi => by omega, fun i j hi => by omega, Below.refl _ _⟩
  case round =>
    obtain ⟨k, ib, X, c1, hk, rfl, rfl, hb⟩ := hrel
    have HB := hide hb
    clear hb
    by_cases hlt : k < n
    · go_wp2_with ((at_builtin); refine wpList_app1 (w0 := wr.alloc (.cells (madeCells #[.int .i64 0] n) 3)) _ _ 22 23 (.slice none 0 0) 24 rfl rfl Try.underlying22 info_ints rfl w.heap.size (.slice X k c1) k _ (.slice (some ⟨wr.heap.size, 0, none⟩) n n) rfl (by simp [Act.eval]) rfl ⟨_, rfl⟩ (HB.out.own.alloc _) rfl (by omega) (by omega) (by have := HB.out.bel.size; simp; omega) ?_; intro g cg w1 hown1 hc1 hc1m hg1 hgl hgrow; have HOW1 := hide hown1; have HG := hide hgrow; have HG1 := hide hg1; clear hown1 hgrow hg1)
      go_roundw
      case rel => exact ⟨k + 1, _, _, _, by omega, by go_num, rfl, HB.out.step HOW1.out HG1.out HG.out⟩
      case measure => simp [intOf] <;> omega
    · obtain rfl : n = k := by omega
      go_wp2
      go_ret
      exact ⟨ib, X, c1, rfl, HB.out⟩

set_option maxRecDepth 100000 in
set_option maxHeartbeats 3200000 in
theorem refChances_any (A : Option Addr) (n c : Nat) (W : List (List Nat)) (w : World) (hW : WOk W n) (hA : RowsA w w.heap.size A (upp W)) :
    Calls Try.prog 35 #[.slice A n c] w (TableRes n (tallyN n (chooseN W)) w) := by
  have h5 := hW.le
  have h1 := hW.pos
  have HT := hide (table_any h5 w)
  have HW := hide hW
  have HOK : Hid (∀ l, Ord l n → ((chooseN W) l).length = n ∧ ∀ i, i < n → ((chooseN W) l).getD i 0 < n) := fun l hl => (let h := chooseN_ord HW.out hl; ⟨h.len, fun i hi => h.getD_lt hi⟩)
  have HA := hide hA
  clear hW hA
  go_enter Try.func35, Try.ntmps35
  go_wp2_with (first
    | (go_at_call 57; refine (HT.out).mono ?_; rintro e w1 ⟨ib, X, c1, rfl, ht⟩; have HTB := hide ht; clear ht)
    | (go_at_call 58; refine (refOrders_any h5 h1 w1).mono ?_; rintro e w2 ⟨X2, c2, vs, rfl, hc2, hvl, hcs, hrv, hfr, hb2, hx2⟩; have HVL := hide hvl; have HCS := hide hcs; have HRV := hide hrv; have HFR := hide hfr; have HX2 := hide hx2; clear hvl hcs hrv hfr hx2))
  obtain ⟨N, hN⟩ : ∃ N, (ordsN n).length = N := ⟨_, rfl⟩
  have hN120 : N ≤ 120 := by rw [← hN]; exact ords_len n h5
  have HNN := hide hN
  rw [hN] at hc2
  rw [hN]
  obtain ⟨xb, c1', hv1, hxb, hnc, _, hxlt⟩ := own_form HTB.out.own (by omega)
  injection hv1 with e1 _ e3
  subst e1; subst e3
  clear hN
  have hibl : ∀ i, i < n → ib i < w1.heap.size ∧ w.heap.size ≤ ib i ∧ ib i ≠ xb := fun i hi => ⟨(HTB.out.rows i hi).lt, (HTB.out.ne i hi).1, fun e => (HTB.out.ne i hi).2 (by simp [Value.ownBlock, e])⟩
  have hT0 : TInv n w2.heap.size w2 ib (fun k => ∃ i, i < n ∧ k = ib i) (fun _ _ => 0) w2 :=
    ⟨fun k => Iff.rfl, fun _ _ _ => rfl, Nat.le_refl _, fun i hi => ((HTB.out.rows i hi).of_block (hb2.block _ (hibl i hi).1)).congr (fun g _ => by simp [wrap64])⟩
  have hbel0 : Below w.heap.size w w2 := HTB.out.bel.trans (hb2.mono HTB.out.bel.size)
  have HIBL := hide hibl
  clear hibl
  go_loopw [15] (fun i wr => ∃ (j : Nat) (s : Nat → Nat → Nat), j ≤ N ∧ i = .int .i64 j ∧ TInv n w2.heap.size w2 ib (fun k => ∃ i, i < n ∧ k = ib i) s wr ∧ Below w.heap.size w wr ∧ Hid (s = tallyF n (chooseN W) ((ordsN n).take j) (fun _ _ => 0))) (fun i _ => N - (intOf i).toNat)
  case atStart => exact ⟨0, _, Nat.zero_le _, rfl, hT0, hbel0, rfl⟩
  case round =>
    clear hT0
    obtain ⟨j, s, hj, rfl, hi, hbel, hs⟩ := hrel
    have hsz1 := hb2.size
    by_cases hlt : j < N
    · have hjv : j < vs.length := by rw [HVL.out, HNN.out]; exact hlt
      obtain ⟨A', c', hv2, hle2, hI2, _⟩ := HRV.out.2 j (by rw [upp_length, HNN.out]; exact hlt)
      rw [upp_getD] at hv2 hle2 hI2
      obtain ⟨l, hl⟩ : ∃ l, (ordsN n).getD j [] = l := ⟨_, rfl⟩
      have hol : Ord l n := by rw [← hl]; exact mem_ordsN.1 (getD_mem (by rw [HNN.out]; exact hlt))
      have htk : (ordsN n).take (j + 1) = (ordsN n).take j ++ [l] := by
        rw [List.take_succ_eq_append_getElem (by rw [HNN.out]; exact hlt), ← hl, List.getD_eq_getElem?_getD, List.getElem?_eq_getElem (by rw [HNN.out]; exact hlt)]; rfl
      rw [hl, up_length, hol.len] at hv2 hle2
      rw [hl] at hI2
      have hnew := HFR.out _ (List.mem_of_getElem? hv2)
      obtain ⟨b2, o2, rfl, hcl2⟩ := HCS.out j _ hv2
      have hb2l : b2 < w2.heap.size := cell_lt hcl2
      have hb2n : ∀ i, i < n → b2 ≠ ib i := fun i hi' e => by have := HX2.out b2 rfl; have := (HIBL.out i hi').1; omega
      have hcell : wr.cell? ⟨b2, o2 + j, none⟩ = some (.slice A' n c') := (World.cell?_of_block (w := w2) (a := ⟨b2, o2 + j, none⟩) (hi.2.1 b2 hb2l hb2n)).trans hcl2
      have hI3 : IntsA wr wr.heap.size A' (up l) := hI2.keepA fun b o e => by
        obtain ⟨b', o', e', hb', _⟩ := hI2 0 (by rw [up_length, hol.len]; omega)
        rw [e] at e'
        injection e' with e'
        injection e' with e4 e5 _
        subst e4
        have hbn : w1.heap.size ≤ b := by
          rcases hnew b (by subst e; rfl) with h | ⟨o, h⟩
          · exact h
          · cases h
        exact ⟨by have := hi.2.2.1; omega, hi.2.1 b hb' (fun i hi' e => by have := (HIBL.out i hi').1; omega)⟩
      have HC := hide (refChoose_any A A' n c c' w.heap.size wr.heap.size W l wr (by omega) HW.out.len HW.out.rows (HA.out.below hbel) hol hI3)
      have HTK := hide htk
      have hokl := HOK.out l hol
      have HOKL := hide hokl
      have HI := hide hi
      obtain ⟨f, hf⟩ : ∃ f, (chooseN W) l = f := ⟨_, rfl⟩
      have HF := hide hf
      rw [hf] at HOKL
      have hstep : Hid (∀ s' : Nat → Nat → Nat, (∀ i g, s' i g = s i g + if i < n ∧ f.getD i 0 = g then 1 else 0) → s' = tallyF n (chooseN W) ((ordsN n).take (j + 1)) (fun _ _ => 0)) := fun s' h => by
        rw [HTK.out, tallyF, List.foldl_append]
        simp only [List.foldl_cons, List.foldl_nil]
        funext i g
        rw [h i g]
        simp only [tallyStep, HF.out]
        rw [hs.out]; rfl
      clear hl hol hv2 hI2 hnew hcl2 hb2n hI3 htk hokl hi hf hb2l hle2
      go_wp2_with (go_at_call 37; refine (HC.out).mono ?_; rintro e w3 ⟨O, co, rfl, h1', h2', h3'⟩; have H1 := hide h1'; have H2 := hide h2'; have H3 := hide h3'; clear h1' h2' h3')
      have hi1 := HI.out.next (fun i hi => by have := (HIBL.out i hi).1; omega) H2.out
      have hbel1 := hbel.trans (H2.out.mono hbel.size)
      have hOff : ∀ i, i < n → (Value.slice O n co).ownBlock ≠ some (ib i) := fun i hi e => by
        have := H3.out _ e
        have := (HIBL.out i hi).1
        have := HI.out.2.2.1
        omega
      have HOFF := hide hOff
      clear hOff
      go_loopw [23] (fun i wr => ∃ (q : Nat) (s1 : Nat → Nat → Nat), q ≤ n ∧ i = .int .i64 q ∧ TInv n w2.heap.size w2 ib (fun k => ∃ i, i < n ∧ k = ib i) s1 wr ∧ Below w.heap.size w wr ∧ IntsA wr wr.heap.size O (up f) ∧ Hid (∀ i g, s1 i g = s i g + if i < q ∧ f.getD i 0 = g then 1 else 0)) (fun i _ => n - (intOf i).toNat)
      case atStart => exact ⟨0, s, Nat.zero_le _, rfl, hi1, hbel1, by rw [← HF.out]; exact H1.out, fun i g => by simp⟩
      case round =>
        clear hi1 hbel1 hcell
        obtain ⟨q, s1, hq, rfl, hi1, hbel1, hO, HS⟩ := hrel
        by_cases hltq : q < n
        · obtain ⟨b, o, x, rfl, hb, hcx, hx⟩ := hO.at_ (k := q) (by rw [up_length, HOKL.out.1]; exact hltq)
          have hx' := hx.out
          rw [up_getD] at hx'
          have hgn := HOKL.out.2 q hltq
          obtain ⟨g, hg⟩ : ∃ g, f.getD q 0 = g := ⟨_, rfl⟩
          rw [hg] at hx' hgn
          have HGG := hide hg
          subst hx'
          have hoff : b ≠ ib q := fun e => HOFF.out q hltq (by rw [← e]; rfl)
          have hibq := HIBL.out q hltq
          have hxc : wr.cell? ⟨xb, q, none⟩ = some (.slice (some ⟨ib q, 0, none⟩) n n) := by
            have h8 : w1.cell? ⟨xb, q, none⟩ = some (.slice (some ⟨ib q, 0, none⟩) n n) := by
              have := HTB.out.own.cells (g := xb) rfl q (.slice (some ⟨ib q, 0, none⟩) n n) (by simp [hltq])
              rw [add_plain] at this
              simpa using this
            have h9 : w2.cell? ⟨xb, q, none⟩ = _ := (hb2.cell (p := ⟨xb, q, none⟩) hxlt).trans h8
            exact (World.cell?_of_block (w := w2) (a := ⟨xb, q, none⟩) (hi1.2.1 xb (by omega) (fun i hi' e => (HIBL.out i hi').2.2 e.symm))).trans h9
          have hrow := hi1.2.2.2 q hltq
          have hcc := hrow.cell hgn
          have hfz := hrow.frozen g
          have hwb := wrap_bd (s1 q g : Nat)
          have hw1 := wrap_wrap_one (s1 q g)
          have hbump := hi1.bump (fun i hi => by have := (HIBL.out i hi).1; omega) HTB.out.inj (g := g) hltq
          have HBU := hide hbump
          obtain ⟨y, hy⟩ : ∃ y, y = wrap64 ((s1 q g : Nat) : Int) := ⟨_, rfl⟩
          rw [← hy] at hcc hw1 hwb
          have HY := hide hy
          have HW1 := hide hw1
          obtain ⟨bj, hbj⟩ : ∃ bj, bj = ib q := ⟨_, rfl⟩
          rw [← hbj] at hxc hcc hfz hoff hibq
          have HBJ := hide hbj
          clear hx hg hrow hy hw1 hbump hbj
          go_wp2
          go_roundw
          case rel =>
            refine ⟨q + 1, (fun i' g' => s1 i' g' + if i' = q ∧ g' = g then 1 else 0), by omega, by go_num, ?_, hbel1.setCell (by show w.heap.size ≤ bj; omega) _, ?_, fun i g' => ?_⟩
            · rw [HW1.out, HBJ.out]; exact HBU.out
            · refine hO.keepA fun b2 o2 e => ?_
              injection e with e
              injection e with e3 e4 _
              subst e3
              exact ⟨by simpa [World.setCell] using hb, blk_far _ (by omega)⟩
            · show _ = _
              dsimp only
              rw [HS.out i g']
              by_cases e : i = q
              · subst e
                rw [HGG.out]
                by_cases e2 : g' = g
                · subst e2; simp
                · have e3 : ¬ g = g' := fun h => e2 h.symm
                  simp [e2, e3]
              · simp only [e, false_and, if_false, Nat.add_zero, show i < q + 1 ↔ i < q from by omega]
          case measure => simp [intOf] <;> omega
        · obtain rfl : n = q := by omega
          have HH1 := hide hi1
          clear hi1
          go_wp2
          go_roundw
          case rel => exact ⟨j + 1, s1, by omega, by go_num, HH1.out, hbel1, hstep.out s1 HS.out⟩
          case measure => simp [intOf] <;> omega
    · obtain rfl : N = j := by omega
      have HI := hide hi
      clear hi
      go_wp2
      go_ret
      have hs2 := hs.out
      rw [← HNN.out, List.take_length] at hs2
      refine ⟨some ⟨xb, 0, none⟩, c1, rfl, hnc, fun i hil => ?_, hbel⟩
      rw [upp_length, tallyN_len] at hil
      have hrow := HI.out.2.2.2 i hil
      have hll : ((upp (tallyN n (chooseN W))).getD i []).length = n := by rw [upp_getD, up_length, tallyN_row _ _ hil]; simp
      refine ⟨xb, 0, some ⟨ib i, 0, none⟩, n, rfl, by have := HI.out.2.2.1; omega, ?_, by omega, ?_⟩
      · rw [hll, Nat.zero_add]
        have h8 : w1.cell? ⟨xb, i, none⟩ = some (.slice (some ⟨ib i, 0, none⟩) n n) := by
          have := HTB.out.own.cells (g := xb) rfl i (.slice (some ⟨ib i, 0, none⟩) n n) (by simp [hil])
          rw [add_plain] at this
          simpa using this
        have h9 : w2.cell? ⟨xb, i, none⟩ = _ := (hb2.cell (p := ⟨xb, i, none⟩) hxlt).trans h8
        exact (World.cell?_of_block (w := w2) (a := ⟨xb, i, none⟩) (HI.out.2.1 xb (by omega) (fun i hi' e => (HIBL.out i hi').2.2 e.symm))).trans h9
      · refine ints_of_row hrow hll.symm (fun g hg => ?_)
        have e : ((upp (tallyN n (chooseN W))).getD i []).getD g 0 = ((tallyF n (chooseN W) (ordsN n) (fun _ _ => 0) i g : Nat) : Int) := by
          rw [upp_getD, up_getD, tallyN_row _ _ hil]
          simp [List.getD_eq_getElem?_getD, hg]
        rw [e]
        have h1 := tallyF_le n (chooseN W) (ordsN n) (fun _ _ => 0) i g
        rw [hs2, wrapNat _ (by have := HNN.out; omega)]

set_option maxRecDepth 100000 in
set_option maxHeartbeats 3200000 in
theorem refGiven_any (A : Option Addr) (n c : Nat) (W : List (List Nat)) (w : World) (hW : WOk W n) (hA : RowsA w w.heap.size A (upp W)) :
    Calls Try.prog 32 #[.slice A n c] w (TableRes n (tallyN n (givenF W)) w) := by
  have h5 := hW.le
  have h1 := hW.pos
  have HT := hide (table_any h5 w)
  have HW := hide hW
  have HOK : Hid (∀ l, Ord l n → ((givenF W) l).length = n ∧ ∀ i, i < n → ((givenF W) l).getD i 0 < n) := fun l hl => ⟨by rw [givenF, listF_len, HW.out.len], fun i hi => by rw [givenF, listF_getD _ _ (by rw [HW.out.len]; exact hi)]; exact ((HW.out.mkt hl).own_law i hi).1⟩
  have HA := hide hA
  clear hW hA
  go_enter Try.func32, Try.ntmps32
  go_wp2_with (first
    | (go_at_call 57; refine (HT.out).mono ?_; rintro e w1 ⟨ib, X, c1, rfl, ht⟩; have HTB := hide ht; clear ht)
    | (go_at_call 58; refine (refOrders_any h5 h1 w1).mono ?_; rintro e w2 ⟨X2, c2, vs, rfl, hc2, hvl, hcs, hrv, hfr, hb2, hx2⟩; have HVL := hide hvl; have HCS := hide hcs; have HRV := hide hrv; have HFR := hide hfr; have HX2 := hide hx2; clear hvl hcs hrv hfr hx2))
  obtain ⟨N, hN⟩ : ∃ N, (ordsN n).length = N := ⟨_, rfl⟩
  have hN120 : N ≤ 120 := by rw [← hN]; exact ords_len n h5
  have HNN := hide hN
  rw [hN] at hc2
  rw [hN]
  obtain ⟨xb, c1', hv1, hxb, hnc, _, hxlt⟩ := own_form HTB.out.own (by omega)
  injection hv1 with e1 _ e3
  subst e1; subst e3
  clear hN
  have hibl : ∀ i, i < n → ib i < w1.heap.size ∧ w.heap.size ≤ ib i ∧ ib i ≠ xb := fun i hi => ⟨(HTB.out.rows i hi).lt, (HTB.out.ne i hi).1, fun e => (HTB.out.ne i hi).2 (by simp [Value.ownBlock, e])⟩
  have hT0 : TInv n w2.heap.size w2 ib (fun k => ∃ i, i < n ∧ k = ib i) (fun _ _ => 0) w2 :=
    ⟨fun k => Iff.rfl, fun _ _ _ => rfl, Nat.le_refl _, fun i hi => ((HTB.out.rows i hi).of_block (hb2.block _ (hibl i hi).1)).congr (fun g _ => by simp [wrap64])⟩
  have hbel0 : Below w.heap.size w w2 := HTB.out.bel.trans (hb2.mono HTB.out.bel.size)
  have HIBL := hide hibl
  clear hibl
  go_loopw [17] (fun i wr => ∃ (j : Nat) (s : Nat → Nat → Nat), j ≤ N ∧ i = .int .i64 j ∧ TInv n w2.heap.size w2 ib (fun k => ∃ i, i < n ∧ k = ib i) s wr ∧ Below w.heap.size w wr ∧ Hid (s = tallyF n (givenF W) ((ordsN n).take j) (fun _ _ => 0))) (fun i _ => N - (intOf i).toNat)
  case atStart => exact ⟨0, _, Nat.zero_le _, rfl, hT0, hbel0, rfl⟩
  case round =>
    clear hT0
    obtain ⟨j, s, hj, rfl, hi, hbel, hs⟩ := hrel
    have hsz1 := hb2.size
    by_cases hlt : j < N
    · have hjv : j < vs.length := by rw [HVL.out, HNN.out]; exact hlt
      obtain ⟨A', c', hv2, hle2, hI2, _⟩ := HRV.out.2 j (by rw [upp_length, HNN.out]; exact hlt)
      rw [upp_getD] at hv2 hle2 hI2
      obtain ⟨l, hl⟩ : ∃ l, (ordsN n).getD j [] = l := ⟨_, rfl⟩
      have hol : Ord l n := by rw [← hl]; exact mem_ordsN.1 (getD_mem (by rw [HNN.out]; exact hlt))
      have htk : (ordsN n).take (j + 1) = (ordsN n).take j ++ [l] := by
        rw [List.take_succ_eq_append_getElem (by rw [HNN.out]; exact hlt), ← hl, List.getD_eq_getElem?_getD, List.getElem?_eq_getElem (by rw [HNN.out]; exact hlt)]; rfl
      rw [hl, up_length, hol.len] at hv2 hle2
      rw [hl] at hI2
      have hnew := HFR.out _ (List.mem_of_getElem? hv2)
      obtain ⟨b2, o2, rfl, hcl2⟩ := HCS.out j _ hv2
      have hb2l : b2 < w2.heap.size := cell_lt hcl2
      have hb2n : ∀ i, i < n → b2 ≠ ib i := fun i hi' e => by have := HX2.out b2 rfl; have := (HIBL.out i hi').1; omega
      have hcell : wr.cell? ⟨b2, o2 + j, none⟩ = some (.slice A' n c') := (World.cell?_of_block (w := w2) (a := ⟨b2, o2 + j, none⟩) (hi.2.1 b2 hb2l hb2n)).trans hcl2
      have hI3 : IntsA wr wr.heap.size A' (up l) := hI2.keepA fun b o e => by
        obtain ⟨b', o', e', hb', _⟩ := hI2 0 (by rw [up_length, hol.len]; omega)
        rw [e] at e'
        injection e' with e'
        injection e' with e4 e5 _
        subst e4
        have hbn : w1.heap.size ≤ b := by
          rcases hnew b (by subst e; rfl) with h | ⟨o, h⟩
          · exact h
          · cases h
        exact ⟨by have := hi.2.2.1; omega, hi.2.1 b hb' (fun i hi' e => by have := (HIBL.out i hi').1; omega)⟩
      have HC := hide ((refTraded_any A A' n c c' wr.heap.size W l wr (by omega) ((HA.out.below hbel).more hbel.size) hI3 (HW.out.mkt hol)))
      have HTK := hide htk
      have hokl := HOK.out l hol
      have HOKL := hide hokl
      have HI := hide hi
      obtain ⟨f, hf⟩ : ∃ f, (givenF W) l = f := ⟨_, rfl⟩
      have HF := hide hf
      rw [hf] at HOKL
      have hstep : Hid (∀ s' : Nat → Nat → Nat, (∀ i g, s' i g = s i g + if i < n ∧ f.getD i 0 = g then 1 else 0) → s' = tallyF n (givenF W) ((ordsN n).take (j + 1)) (fun _ _ => 0)) := fun s' h => by
        rw [HTK.out, tallyF, List.foldl_append]
        simp only [List.foldl_cons, List.foldl_nil]
        funext i g
        rw [h i g]
        simp only [tallyStep, HF.out]
        rw [hs.out]; rfl
      clear hl hol hv2 hI2 hnew hcl2 hb2n hI3 htk hokl hi hf hb2l hle2
      go_wp2_with (go_at_call 51; refine (HC.out).mono ?_; rintro e w3 ⟨O, R, co, cr, rfl, h1', _, h2', h3', _⟩; have H1 : Hid (IntsA w3 w3.heap.size O (up (givenF W l))) := (by show IntsA _ _ _ _; rw [givenF, HW.out.len]; exact h1'); have H2 := hide h2'; have H3 := hide h3'; clear h1' h2' h3')
      have hi1 := HI.out.next (fun i hi => by have := (HIBL.out i hi).1; omega) H2.out
      have hbel1 := hbel.trans (H2.out.mono hbel.size)
      have hOff : ∀ i, i < n → (Value.slice O n co).ownBlock ≠ some (ib i) := fun i hi e => by
        have := H3.out _ e
        have := (HIBL.out i hi).1
        have := HI.out.2.2.1
        omega
      have HOFF := hide hOff
      clear hOff
      go_loopw [29] (fun i wr => ∃ (q : Nat) (s1 : Nat → Nat → Nat), q ≤ n ∧ i = .int .i64 q ∧ TInv n w2.heap.size w2 ib (fun k => ∃ i, i < n ∧ k = ib i) s1 wr ∧ Below w.heap.size w wr ∧ IntsA wr wr.heap.size O (up f) ∧ Hid (∀ i g, s1 i g = s i g + if i < q ∧ f.getD i 0 = g then 1 else 0)) (fun i _ => n - (intOf i).toNat)
      case atStart => exact ⟨0, s, Nat.zero_le _, rfl, hi1, hbel1, by rw [← HF.out]; exact H1.out, fun i g => by simp⟩
      case round =>
        clear hi1 hbel1 hcell
        obtain ⟨q, s1, hq, rfl, hi1, hbel1, hO, HS⟩ := hrel
        by_cases hltq : q < n
        · obtain ⟨b, o, x, rfl, hb, hcx, hx⟩ := hO.at_ (k := q) (by rw [up_length, HOKL.out.1]; exact hltq)
          have hx' := hx.out
          rw [up_getD] at hx'
          have hgn := HOKL.out.2 q hltq
          obtain ⟨g, hg⟩ : ∃ g, f.getD q 0 = g := ⟨_, rfl⟩
          rw [hg] at hx' hgn
          have HGG := hide hg
          subst hx'
          have hoff : b ≠ ib q := fun e => HOFF.out q hltq (by rw [← e]; rfl)
          have hibq := HIBL.out q hltq
          have hxc : wr.cell? ⟨xb, q, none⟩ = some (.slice (some ⟨ib q, 0, none⟩) n n) := by
            have h8 : w1.cell? ⟨xb, q, none⟩ = some (.slice (some ⟨ib q, 0, none⟩) n n) := by
              have := HTB.out.own.cells (g := xb) rfl q (.slice (some ⟨ib q, 0, none⟩) n n) (by simp [hltq])
              rw [add_plain] at this
              simpa using this
            have h9 : w2.cell? ⟨xb, q, none⟩ = _ := (hb2.cell (p := ⟨xb, q, none⟩) hxlt).trans h8
            exact (World.cell?_of_block (w := w2) (a := ⟨xb, q, none⟩) (hi1.2.1 xb (by omega) (fun i hi' e => (HIBL.out i hi').2.2 e.symm))).trans h9
          have hrow := hi1.2.2.2 q hltq
          have hcc := hrow.cell hgn
          have hfz := hrow.frozen g
          have hwb := wrap_bd (s1 q g : Nat)
          have hw1 := wrap_wrap_one (s1 q g)
          have hbump := hi1.bump (fun i hi => by have := (HIBL.out i hi).1; omega) HTB.out.inj (g := g) hltq
          have HBU := hide hbump
          obtain ⟨y, hy⟩ : ∃ y, y = wrap64 ((s1 q g : Nat) : Int) := ⟨_, rfl⟩
          rw [← hy] at hcc hw1 hwb
          have HY := hide hy
          have HW1 := hide hw1
          obtain ⟨bj, hbj⟩ : ∃ bj, bj = ib q := ⟨_, rfl⟩
          rw [← hbj] at hxc hcc hfz hoff hibq
          have HBJ := hide hbj
          clear hx hg hrow hy hw1 hbump hbj
          go_wp2
          go_roundw
          case rel =>
            refine ⟨q + 1, (fun i' g' => s1 i' g' + if i' = q ∧ g' = g then 1 else 0), by omega, by go_num, ?_, hbel1.setCell (by show w.heap.size ≤ bj; omega) _, ?_, fun i g' => ?_⟩
            · rw [HW1.out, HBJ.out]; exact HBU.out
            · refine hO.keepA fun b2 o2 e => ?_
              injection e with e
              injection e with e3 e4 _
              subst e3
              exact ⟨by simpa [World.setCell] using hb, blk_far _ (by omega)⟩
            · show _ = _
              dsimp only
              rw [HS.out i g']
              by_cases e : i = q
              · subst e
                rw [HGG.out]
                by_cases e2 : g' = g
                · subst e2; simp
                · have e3 : ¬ g = g' := fun h => e2 h.symm
                  simp [e2, e3]
              · simp only [e, false_and, if_false, Nat.add_zero, show i < q + 1 ↔ i < q from by omega]
          case measure => simp [intOf] <;> omega
        · obtain rfl : n = q := by omega
          have HH1 := hide hi1
          clear hi1
          go_wp2
          go_roundw
          case rel => exact ⟨j + 1, s1, by omega, by go_num, HH1.out, hbel1, hstep.out s1 HS.out⟩
          case measure => simp [intOf] <;> omega
    · obtain rfl : N = j := by omega
      have HI := hide hi
      clear hi
      go_wp2
      go_ret
      have hs2 := hs.out
      rw [← HNN.out, List.take_length] at hs2
      refine ⟨some ⟨xb, 0, none⟩, c1, rfl, hnc, fun i hil => ?_, hbel⟩
      rw [upp_length, tallyN_len] at hil
      have hrow := HI.out.2.2.2 i hil
      have hll : ((upp (tallyN n (givenF W))).getD i []).length = n := by rw [upp_getD, up_length, tallyN_row _ _ hil]; simp
      refine ⟨xb, 0, some ⟨ib i, 0, none⟩, n, rfl, by have := HI.out.2.2.1; omega, ?_, by omega, ?_⟩
      · rw [hll, Nat.zero_add]
        have h8 : w1.cell? ⟨xb, i, none⟩ = some (.slice (some ⟨ib i, 0, none⟩) n n) := by
          have := HTB.out.own.cells (g := xb) rfl i (.slice (some ⟨ib i, 0, none⟩) n n) (by simp [hil])
          rw [add_plain] at this
          simpa using this
        have h9 : w2.cell? ⟨xb, i, none⟩ = _ := (hb2.cell (p := ⟨xb, i, none⟩) hxlt).trans h8
        exact (World.cell?_of_block (w := w2) (a := ⟨xb, i, none⟩) (HI.out.2.1 xb (by omega) (fun i hi' e => (HIBL.out i hi').2.2 e.symm))).trans h9
      · refine ints_of_row hrow hll.symm (fun g hg => ?_)
        have e : ((upp (tallyN n (givenF W))).getD i []).getD g 0 = ((tallyF n (givenF W) (ordsN n) (fun _ _ => 0) i g : Nat) : Int) := by
          rw [upp_getD, up_getD, tallyN_row _ _ hil]
          simp [List.getD_eq_getElem?_getD, hg]
        rw [e]
        have h1 := tallyF_le n (givenF W) (ordsN n) (fun _ _ => 0) i g
        rw [hs2, wrapNat _ (by have := HNN.out; omega)]
end Go.Proofs.Ytilnbiaabhdfgaa
