/-
  turns: the search for stable matchings.
-/
import Derived.Test.YtgognkofnegobaaTurnsH
import Derived.BigQuiet
namespace Go.Proofs.Ytgognkofnegobaa
open Go.RowKit
set_option linter.unusedVariables false
set_option linter.unusedSimpArgs false

theorem take_set {q : List Int} {h : Nat} {y : Int} : (q.set h y).take h = q.take h := by
  rw [List.take_set_of_le (Nat.le_refl _)]
theorem getD_set {q : List Int} {h : Nat} {y : Int} (hl : h < q.length) : (q.set h y).getD h 0 = y := by
  simp [List.getD_eq_getElem?_getD, hl]
theorem take_snoc {q : List Int} {h : Nat} {y : Int} (hl : h < q.length) (hy : q.getD h 0 = y) : q.take (h + 1) = q.take h ++ [y] := by
  rw [List.take_succ_eq_append_getElem hl]
  congr 2
  rw [← hy, List.getD_eq_getElem?_getD, List.getElem?_eq_getElem hl]; rfl

theorem take_last {q p : List Int} {h : Nat} {y : Int} (hl : p.length = h) (hq : q.take (h + 1) = p ++ [y]) : q.getD h 0 = y := by
  have h1 : (q.take (h + 1)).getD h 0 = q.getD h 0 := by simp [List.getD_eq_getElem?_getD, List.getElem?_take]
  rw [← h1, hq, List.getD_eq_getElem?_getD, List.getElem?_append_right (by omega), hl, Nat.sub_self]; rfl

theorem wrap_s {s : Nat} (h : s < 5) : wrap64 ((s : Int) + 1) = (s : Int) + 1 := by unfold wrap64; omega

set_option maxRecDepth 100000 in
set_option maxHeartbeats 3200000 in
theorem try_any (B : Nat) (HA SA PA : Option Addr) (n hc sc pc : Nat) (H S : List (List Nat)) (hn : n ≤ 4) (hn1 : 1 ≤ n) : ∀ (d h : Nat) (q p : List Int) (L : List (List Int)) (X : Option Addr) (j c : Nat) (vs : List Value) (w : World), h + d = n → q.take h = p → MPart p h n → L.length + 5 ^ d ≤ 1000 →
    StM w B HA SA PA n hc sc pc H S q L X j c vs →
    Calls Try.prog 64 (#[.int .i64 (h : Nat)] ++ #[.pointer (some ⟨B + 3, 0, none⟩), .pointer (some ⟨B, 0, none⟩), .pointer (some ⟨B + 1, 0, none⟩), .pointer (some ⟨B + 4, 0, none⟩)]) w (TryPost B HA SA PA n hc sc pc H S h d p L w) := by
  intro d
  induction d with
  | zero =>
    intro h q p L X j c vs w hd hq hp hL hM
    obtain rfl : n = h := by omega
    have : q.take n = q := List.take_of_length_le (by rw [hM.ql]; exact Nat.le_refl _)
    rw [this] at hq
    subst hq
    exact try_zero B HA SA PA n hc sc pc H S q L X j c vs w hn hn1 hp (by omega) hM
  | succ d ih =>
    intro h q p L X j c vs w hd hq hp hL hM
    have IH := hide ih
    have hlt : h < n := by omega
    have hne : ((h : Int) == (n : Int)) = false := by simp; omega
    have hin : (h : Int) < (n : Int) := by omega
    have m0 := blk_cell hM.mb 0
    have x0 := hM.mr.cell hlt
    have f0 := hM.mr.frozen h
    simp only [List.getElem?_toArray, List.getElem?_cons_zero, List.getElem?_cons_succ] at m0
    have HM0 := hide (hM.set h hlt (-1))
    have HQ0 : Hid ((q.set h (-1)).take h = p) := by show _ = _; rw [take_set]; exact hq
    have HX0 : Hid ((q.set h (-1)).getD h 0 = -1) := getD_set (by rw [hM.ql]; exact hlt)
    have HB0 : Hid (Below B w (w.setCell ⟨B + 2, h, none⟩ (.int .i64 (-1)))) := (Below.refl _ _).setCell (by show B ≤ B + 2; omega) _
    have HP := hide hp
    obtain ⟨N, hN⟩ : ∃ N, 5 ^ d = N := ⟨_, rfl⟩
    have hL9 : L.length + 5 * N ≤ 1000 := by rw [← hN]; rw [Nat.pow_succ] at hL; omega
    have HEL : Hid (∀ k, k ≤ n + 1 → ((enumTo n d p k).filter (stabB H S n)).length ≤ k * N) := fun k hk => by
      refine Nat.le_trans (List.length_filter_le _ _) ?_
      have := flatM_le (f := fun (x : Nat) => enumM n d (p ++ [(x : Int) - 1])) (b := N) (List.range k) fun x _ => by rw [← hN]; exact enumM_len hn d _
      rw [List.length_range] at this
      exact this
    have HN := hide hN
    clear ih hM hq hp hL hN
    simp only [List.append_toArray, List.cons_append, List.nil_append]
    go_enter Try.func64, Try.ntmps64
    go_wp2
    clear m0 x0 f0
    go_loopw [] (fun wr => ∃ (k : Nat) (q' : List Int) (X' : Option Addr) (j' c' : Nat) (vs' : List Value), k ≤ n + 1 ∧ Hid (q'.take h = p) ∧ Hid (q'.getD h 0 = (k : Int) - 1) ∧ Hid (StM wr B HA SA PA n hc sc pc H S q' (L ++ (enumTo n d p k).filter (stabB H S n)) X' j' c' vs') ∧ Below B w wr) (fun wr => ((n : Int) - intOf ((wr.cell? ⟨B + 2, h, none⟩).getD (.int .i64 0))).toNat)
    case atStart => exact ⟨0, _, X, j, c, vs, by omega, HQ0, hide (by rw [HX0.out]; rfl), hide (by simpa [enumTo] using HM0.out), HB0.out⟩
    case round =>
      obtain ⟨k, q', X', j', c', vs', hk, HQ, HX, HM, hb⟩ := hrel
      have HBE := hide hb
      obtain ⟨x, hx⟩ : ∃ x : Int, (k : Int) - 1 = x := ⟨_, rfl⟩
      have x0 := HM.out.mr.cell hlt
      rw [HX.out, hx] at x0
      have hmeas : Hid (((n : Int) - intOf ((wr.cell? ⟨B + 2, h, none⟩).getD (.int .i64 0))).toNat = ((n : Int) - x).toNat) := by show _ = _; rw [x0]; rfl
      replace HX : Hid (q'.getD h 0 = x) := by show _ = _; rw [HX.out]; exact hx
      have m0 := blk_cell HM.out.mb 0
      have p0 := blk_cell HM.out.pb 0
      have p1 := blk_cell HM.out.pb 1
      have p2 := blk_cell HM.out.pb 2
      have f0 := HM.out.mr.frozen h
      simp only [List.getElem?_toArray, List.getElem?_cons_zero, List.getElem?_cons_succ] at m0 p0 p1 p2
      by_cases hkn : k ≤ n
      · have hdx : decide (x < (n : Int)) = true := decide_eq_true (by omega)
        clear hb
        have g3 : B + 3 < wr.heap.size := by have := lt_of_block HM.out.tb; omega
        have g2 : B + 2 < wr.heap.size := by omega
        have g1 : B < wr.heap.size := by omega
        go_wp2_with fail
        refine wp_region_below (by kernel_rfl) (by kernel_rfl) ?_
        refine wpQuiet_val' (.slice (some ⟨B + 2, 0, none⟩) n n) (by rfl) (fun w' hw' => by have e0 := (hw'.cell (p := ⟨B + 3, 0, none⟩) g3).trans m0; go_simp) ?_
        simp only [put_lit, List.set_cons_succ, List.set_cons_zero]
        refine wpQuiet_val' (.int .i64 (h : Nat)) (by rfl) (fun w' hw' => by go_simp) ?_
        simp only [put_lit, List.set_cons_succ, List.set_cons_zero]
        refine wpQuiet_val' (.pointer (some ⟨B + 2, h, none⟩)) (by rfl) (fun w' hw' => by go_simp) ?_
        simp only [put_lit, List.set_cons_succ, List.set_cons_zero]
        refine wpQuiet_val' (.int .i64 x) (by rfl) (fun w' hw' => by have e0 := (hw'.cell (p := ⟨B + 2, h, none⟩) g2).trans x0; go_simp) ?_
        simp only [put_lit, List.set_cons_succ, List.set_cons_zero]
        refine wpQuiet_val' (.pointer (some ⟨B, 1, none⟩)) (by rfl) (fun w' hw' => by go_simp) ?_
        simp only [put_lit, List.set_cons_succ, List.set_cons_zero]
        refine wpQuiet_val' (.slice SA n sc) (by rfl) (fun w' hw' => by have e0 := (hw'.cell (p := ⟨B, 1, none⟩) g1).trans p1; go_simp) ?_
        simp only [put_lit, List.set_cons_succ, List.set_cons_zero]
        refine wpQuiet_val' (.int .i64 n) (by rfl) (fun w' hw' => by go_simp) ?_
        simp only [put_lit, List.set_cons_succ, List.set_cons_zero]
        refine wpQuiet_val' (.bool true) (by rfl) (fun w' hw' => by go_simp) ?_
        simp only [put_lit, List.set_cons_succ, List.set_cons_zero]
        refine wpQuiet_nil ?_
        intro w9 hb9
        have HM9 := hide (HM.out.next hb9)
        have hx9 := HM9.out.mr.cell hlt
        rw [HX.out] at hx9
        have n0 := blk_cell HM9.out.mb 0
        have r0 := blk_cell HM9.out.pb 0
        have r1 := blk_cell HM9.out.pb 1
        have r2 := blk_cell HM9.out.pb 2
        simp only [List.getElem?_toArray, List.getElem?_cons_zero, List.getElem?_cons_succ] at n0 r0 r1 r2
        have HB9 := hide (HBE.out.trans (hb9.mono (by omega)))
        have k3 : B + 3 < w9.heap.size := by have := hb9.size; omega
        have k2 : B + 2 < w9.heap.size := by omega
        have k1 : B < w9.heap.size := by omega
        clear hb9 m0 p0 p1 p2 x0 f0
        have HREST : Hid (∀ w8, Below w9.heap.size w9 w8 → StM w8 B HA SA PA n hc sc pc H S q' (L ++ (enumTo n d p k).filter (stabB H S n)) X' j' c' vs' ∧ Below B w w8) := fun w8 hb8 => ⟨HM9.out.next hb8, HB9.out.trans (hb8.mono (by omega))⟩
        by_cases hk0 : k = 0
        · obtain rfl : x = -1 := by omega
          go_wp2_with fail
          refine wp_region_below (by kernel_rfl) (by kernel_rfl) ?_
          refine wpQuiet_val' (.slice (some ⟨B + 2, 0, none⟩) n n) (by rfl) (fun w' hw' => by have e0 := (hw'.cell (p := ⟨B + 3, 0, none⟩) k3).trans n0; go_simp) ?_
          simp only [put_lit, List.set_cons_succ, List.set_cons_zero]
          refine wpQuiet_val' (.int .i64 (h : Nat)) (by rfl) (fun w' hw' => by go_simp) ?_
          simp only [put_lit, List.set_cons_succ, List.set_cons_zero]
          refine wpQuiet_val' (.pointer (some ⟨B + 2, h, none⟩)) (by rfl) (fun w' hw' => by go_simp) ?_
          simp only [put_lit, List.set_cons_succ, List.set_cons_zero]
          refine wpQuiet_val' (.int .i64 (-1)) (by rfl) (fun w' hw' => by have e0 := (hw'.cell (p := ⟨B + 2, h, none⟩) k2).trans hx9; go_simp) ?_
          simp only [put_lit, List.set_cons_succ, List.set_cons_zero]
          refine wpQuiet_val' (.bool true) (by rfl) (fun w' hw' => by go_simp) ?_
          simp only [put_lit, List.set_cons_succ, List.set_cons_zero]
          refine wpQuiet_val' (.bool true) (by rfl) (fun w' hw' => by go_simp) ?_
          simp only [put_lit, List.set_cons_succ, List.set_cons_zero]
          go_big_quiet_skip
          go_big_quiet_skip
          go_big_quiet_skip
          go_big_quiet_skip
          go_big_quiet_skip
          go_big_quiet_skip
          go_big_quiet_skip
          refine wpQuiet_val' (.bool true) (by rfl) (fun w' hw' => by go_simp) ?_
          simp only [put_lit, List.set_cons_succ, List.set_cons_zero]
          refine wpQuiet_nil ?_
          intro w8 hb8
          have hR := HREST.out w8 hb8
          have HR1 := hide hR.1
          have HB8 := hide hR.2
          have t0 := blk_cell HR1.out.tb 0
          have hIH := IH.out (h + 1) q' (p ++ [(-1)]) (L ++ (enumTo n d p k).filter (stabB H S n)) X' j' c' vs' w8 (by omega) (by rw [take_snoc (by rw [HM9.out.ql]; exact hlt) HX.out, HQ.out]) (by have := HP.out.snoc (x := k) (by omega) ; rw [hx] at this; exact this) (by
            have h1 := HEL.out k (by omega)
            have h2 : k * N + N ≤ 5 * N := by rw [← Nat.succ_mul]; exact Nat.mul_le_mul_right _ (by omega)
            rw [List.length_append, HN.out]; omega) hR.1
          rw [show (((h + 1 : Nat)) : Int) = (h : Int) + 1 by omega] at hIH
          have HIH := hide hIH
          simp only [List.getElem?_toArray, List.getElem?_cons_zero, List.getElem?_cons_succ] at t0
          have HE7 : Hid (∀ q7 : List Int, q7.take (h + 1) = p ++ [(-1)] → q7.getD h 0 = (-1)) := fun q7 hq7 => take_last HP.out.len hq7
          have HHX := hide hx
          clear hR hIH hb8 n0 r0 r1 r2 hx9 hx
          go_wp2_with fail
          refine (HIH.out).mono ?_
          rintro e w7 ⟨q7, X7, j7, c7, vs7, rfl, hq7, hM7, hb7⟩
          have HQ7 := hide hq7
          have HM7 := hide hM7
          have HB7 := hide (HB8.out.trans hb7)
          have x7 := hM7.mr.cell hlt
          have f7 := hM7.mr.frozen h
          have m7 := blk_cell hM7.mb 0
          rw [HE7.out q7 hq7] at x7
          simp only [List.getElem?_toArray, List.getElem?_cons_zero, List.getElem?_cons_succ] at m7
          have hbs : B + 2 < w7.heap.size := hM7.mr.lt
          clear hq7 hM7 hb7 HIH IH HREST HE7 HEL t0 HR1
          go_wp2
          have hx := HHX.out
          have h7 := HM7.out.set h hlt 0
          have hq9 : q7.take h = p := by
            have := congrArg (List.take h) HQ7.out
            rw [List.take_take, Nat.min_eq_left (by omega), List.take_append_of_le_length (by rw [HP.out.len]; exact Nat.le_refl _), List.take_of_length_le (l := p) (by rw [HP.out.len]; exact Nat.le_refl _)] at this
            exact this
          refine ⟨⟨k + 1, q7.set h 0, X7, j7, c7, vs7, by omega, hide (by rw [take_set]; exact hq9), hide (by rw [getD_set (by rw [HM7.out.ql]; exact hlt)]; omega), hide ?_, HB7.out.setCell (by show B ≤ B + 2; omega) _⟩, ?_⟩
          · rw [enumTo_succ, List.filter_append, ← List.append_assoc, hx]
            exact h7
          · rw [hmeas.out, (HM7.out.mr.set h (.int .i64 0)).cell hlt, if_pos rfl]
            first | (simp [intOf]; done) | (simp [intOf]; omega)
        · obtain ⟨s, hs⟩ : ∃ s : Nat, x = (s : Int) := ⟨k - 1, by omega⟩
          subst hs
          have hsn : s < n := by omega
          have hs1 : ((s : Int) == -1) = false := by simp
          have HC := hide (fun w' (hb' : Below w9.heap.size w9 w') => (possible_any HA SA PA n hc sc pc H S h s w' hn hlt hsn ((HM9.out.next hb').pl.more (by have := hb'.size; omega))).mono fun e w7 h7 => (⟨h7.1, hb'.trans (h7.2.mono hb'.size)⟩ : e = .returned (.bool true) ∧ Below w9.heap.size w9 w7))
          go_wp2_with fail
          refine wp_region_below (by kernel_rfl) (by kernel_rfl) ?_
          refine wpQuiet_val' (.slice (some ⟨B + 2, 0, none⟩) n n) (by rfl) (fun w' hw' => by have e0 := (hw'.cell (p := ⟨B + 3, 0, none⟩) k3).trans n0; go_simp) ?_
          simp only [put_lit, List.set_cons_succ, List.set_cons_zero]
          refine wpQuiet_val' (.int .i64 (h : Nat)) (by rfl) (fun w' hw' => by go_simp) ?_
          simp only [put_lit, List.set_cons_succ, List.set_cons_zero]
          refine wpQuiet_val' (.pointer (some ⟨B + 2, h, none⟩)) (by rfl) (fun w' hw' => by go_simp) ?_
          simp only [put_lit, List.set_cons_succ, List.set_cons_zero]
          refine wpQuiet_val' (.int .i64 (s : Nat)) (by rfl) (fun w' hw' => by have e0 := (hw'.cell (p := ⟨B + 2, h, none⟩) k2).trans hx9; go_simp) ?_
          simp only [put_lit, List.set_cons_succ, List.set_cons_zero]
          refine wpQuiet_val' (.bool false) (by rfl) (fun w' hw' => by go_simp) ?_
          simp only [put_lit, List.set_cons_succ, List.set_cons_zero]
          refine wpQuiet_val' (.bool false) (by rfl) (fun w' hw' => by go_simp) ?_
          simp only [put_lit, List.set_cons_succ, List.set_cons_zero]
          refine wpQuiet_val' (.agg #[.slice HA n hc, .slice SA n sc, .slice PA n pc]) (by rfl) (fun w' hw' => by have e0 := (hw'.cell (p := ⟨B, 0, none⟩) k1).trans r0; have e1 := (hw'.cell (p := ⟨B, 1, none⟩) k1).trans r1; have e2 := (hw'.cell (p := ⟨B, 2, none⟩) k1).trans r2; go_simp) ?_
          simp only [put_lit, List.set_cons_succ, List.set_cons_zero]
          refine wpQuiet_val' (.int .i64 (h : Nat)) (by rfl) (fun w' hw' => by go_simp) ?_
          simp only [put_lit, List.set_cons_succ, List.set_cons_zero]
          refine wpQuiet_val' (.slice (some ⟨B + 2, 0, none⟩) n n) (by rfl) (fun w' hw' => by have e0 := (hw'.cell (p := ⟨B + 3, 0, none⟩) k3).trans n0; go_simp) ?_
          simp only [put_lit, List.set_cons_succ, List.set_cons_zero]
          refine wpQuiet_val' (.int .i64 (h : Nat)) (by rfl) (fun w' hw' => by go_simp) ?_
          simp only [put_lit, List.set_cons_succ, List.set_cons_zero]
          refine wpQuiet_val' (.pointer (some ⟨B + 2, h, none⟩)) (by rfl) (fun w' hw' => by go_simp) ?_
          simp only [put_lit, List.set_cons_succ, List.set_cons_zero]
          refine wpQuiet_val' (.int .i64 (s : Nat)) (by rfl) (fun w' hw' => by have e0 := (hw'.cell (p := ⟨B + 2, h, none⟩) k2).trans hx9; go_simp) ?_
          simp only [put_lit, List.set_cons_succ, List.set_cons_zero]
          refine wpQuiet_call' 66 #[.agg #[.slice HA n hc, .slice SA n sc, .slice PA n pc], .int .i64 (h : Nat), .int .i64 (s : Nat)] (.bool true) (by rfl) (fun w' hw' => by go_simp) (fun w' hw' => HC.out w' hw') ?_
          simp only [put_lit, List.set_cons_succ, List.set_cons_zero]
          refine wpQuiet_val' (.bool true) (by rfl) (fun w' hw' => by go_simp) ?_
          simp only [put_lit, List.set_cons_succ, List.set_cons_zero]
          refine wpQuiet_nil ?_
          intro w8 hb8
          have hR := HREST.out w8 hb8
          have HR1 := hide hR.1
          have HB8 := hide hR.2
          have t0 := blk_cell HR1.out.tb 0
          have hIH := IH.out (h + 1) q' (p ++ [(s : Int)]) (L ++ (enumTo n d p k).filter (stabB H S n)) X' j' c' vs' w8 (by omega) (by rw [take_snoc (by rw [HM9.out.ql]; exact hlt) HX.out, HQ.out]) (by have := HP.out.snoc (x := k) (by omega) ; rw [hx] at this; exact this) (by
            have h1 := HEL.out k (by omega)
            have h2 : k * N + N ≤ 5 * N := by rw [← Nat.succ_mul]; exact Nat.mul_le_mul_right _ (by omega)
            rw [List.length_append, HN.out]; omega) hR.1
          rw [show (((h + 1 : Nat)) : Int) = (h : Int) + 1 by omega] at hIH
          have HIH := hide hIH
          simp only [List.getElem?_toArray, List.getElem?_cons_zero, List.getElem?_cons_succ] at t0
          have HE7 : Hid (∀ q7 : List Int, q7.take (h + 1) = p ++ [(s : Int)] → q7.getD h 0 = (s : Int)) := fun q7 hq7 => take_last HP.out.len hq7
          have HHX := hide hx
          clear hR hIH hb8 n0 r0 r1 r2 hx9 hx
          go_wp2_with fail
          refine (HIH.out).mono ?_
          rintro e w7 ⟨q7, X7, j7, c7, vs7, rfl, hq7, hM7, hb7⟩
          have HQ7 := hide hq7
          have HM7 := hide hM7
          have HB7 := hide (HB8.out.trans hb7)
          have x7 := hM7.mr.cell hlt
          have f7 := hM7.mr.frozen h
          have m7 := blk_cell hM7.mb 0
          rw [HE7.out q7 hq7] at x7
          simp only [List.getElem?_toArray, List.getElem?_cons_zero, List.getElem?_cons_succ] at m7
          have hbs : B + 2 < w7.heap.size := hM7.mr.lt
          clear hq7 hM7 hb7 HIH IH HREST HE7 HEL t0 HR1
          go_wp2
          have hx := HHX.out
          have h7 := HM7.out.set h hlt ((s : Int) + 1)
          have hq9 : q7.take h = p := by
            have := congrArg (List.take h) HQ7.out
            rw [List.take_take, Nat.min_eq_left (by omega), List.take_append_of_le_length (by rw [HP.out.len]; exact Nat.le_refl _), List.take_of_length_le (l := p) (by rw [HP.out.len]; exact Nat.le_refl _)] at this
            exact this
          refine ⟨⟨k + 1, q7.set h ((s : Int) + 1), X7, j7, c7, vs7, by omega, hide (by rw [take_set]; exact hq9), hide (by rw [getD_set (by rw [HM7.out.ql]; exact hlt)]; omega), hide ?_, HB7.out.setCell (by show B ≤ B + 2; omega) _⟩, ?_⟩
          · rw [enumTo_succ, List.filter_append, ← List.append_assoc, hx]
            exact h7
          · rw [hmeas.out, (HM7.out.mr.set h (.int .i64 ((s : Int) + 1))).cell hlt, if_pos rfl]
            first | (simp [intOf]; done) | (simp [intOf]; omega)
      · have hdx : decide (x < (n : Int)) = false := decide_eq_false (by omega)
        obtain rfl : k = n + 1 := by omega
        clear hb
        have g3 : B + 3 < wr.heap.size := by have := lt_of_block HM.out.tb; omega
        have g2 : B + 2 < wr.heap.size := by omega
        have g1 : B < wr.heap.size := by omega
        go_wp2_with fail
        refine wp_region_below (by kernel_rfl) (by kernel_rfl) ?_
        refine wpQuiet_val' (.slice (some ⟨B + 2, 0, none⟩) n n) (by rfl) (fun w' hw' => by have e0 := (hw'.cell (p := ⟨B + 3, 0, none⟩) g3).trans m0; go_simp) ?_
        simp only [put_lit, List.set_cons_succ, List.set_cons_zero]
        refine wpQuiet_val' (.int .i64 (h : Nat)) (by rfl) (fun w' hw' => by go_simp) ?_
        simp only [put_lit, List.set_cons_succ, List.set_cons_zero]
        refine wpQuiet_val' (.pointer (some ⟨B + 2, h, none⟩)) (by rfl) (fun w' hw' => by go_simp) ?_
        simp only [put_lit, List.set_cons_succ, List.set_cons_zero]
        refine wpQuiet_val' (.int .i64 x) (by rfl) (fun w' hw' => by have e0 := (hw'.cell (p := ⟨B + 2, h, none⟩) g2).trans x0; go_simp) ?_
        simp only [put_lit, List.set_cons_succ, List.set_cons_zero]
        refine wpQuiet_val' (.pointer (some ⟨B, 1, none⟩)) (by rfl) (fun w' hw' => by go_simp) ?_
        simp only [put_lit, List.set_cons_succ, List.set_cons_zero]
        refine wpQuiet_val' (.slice SA n sc) (by rfl) (fun w' hw' => by have e0 := (hw'.cell (p := ⟨B, 1, none⟩) g1).trans p1; go_simp) ?_
        simp only [put_lit, List.set_cons_succ, List.set_cons_zero]
        refine wpQuiet_val' (.int .i64 n) (by rfl) (fun w' hw' => by go_simp) ?_
        simp only [put_lit, List.set_cons_succ, List.set_cons_zero]
        refine wpQuiet_val' (.bool false) (by rfl) (fun w' hw' => by go_simp) ?_
        simp only [put_lit, List.set_cons_succ, List.set_cons_zero]
        refine wpQuiet_nil ?_
        intro w9 hb9
        have HM9 := hide (HM.out.next hb9)
        have n0 := blk_cell HM9.out.mb 0
        have hx9 := HM9.out.mr.cell hlt
        have f9 := HM9.out.mr.frozen h
        simp only [List.getElem?_toArray, List.getElem?_cons_zero, List.getElem?_cons_succ] at n0
        have HB9 := hide (HBE.out.trans (hb9.mono (by omega)))
        clear hb9 m0 p0 p1 p2 x0 f0
        go_wp2
        go_end0
        have h9 := HM9.out.set h hlt (-1)
        rw [enumTo_full] at h9
        exact ⟨_, _, _, _, _, rfl, by rw [take_set]; exact HQ.out, h9, HB9.out.setCell (by show B ≤ B + 2; omega) _⟩
end Go.Proofs.Ytgognkofnegobaa
