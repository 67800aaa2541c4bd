/-
  turns: blocks, of plans with as many shifts as hands and one place each.
-/
import Derived.Test.YtgognkofnegobaaTurnsD
import Derived.Test.YtgognkofnegobaaAppS
namespace Go.Proofs.Ytgognkofnegobaa
open Go.RowKit
set_option linter.unusedVariables false
set_option linter.unusedSimpArgs false

theorem info_pair : (Try.prog.info? 106).map (fun i => (i.zero, i.size, i.bytes)) = some (some (.agg #[.int .i64 0, .int .i64 0]), 2, 16) := by kernel_rfl
/-- Do the two block the matching? -/
def blkB (H S : List (List Nat)) (m : List Int) (h s : Nat) : Bool :=
  decide (rankT (up (H.getD h [])) s < rankT (up (H.getD h [])) (m.getD h 0)) &&
    (decide ((handsN S m s).length = 0) || decide (rankT (up (S.getD s [])) h < rankT (up (S.getD s [])) ((handsN S m s).getD ((handsN S m s).length - 1) 0 : Nat)))
/-- No pair before (h, s) blocks. -/
def NoBlk (H S : List (List Nat)) (m : List Int) (n h s : Nat) : Prop := (∀ h', h' < h → ∀ s', s' < n → blkB H S m h' s' = false) ∧ ∀ s', s' < s → blkB H S m h s' = false
theorem NoBlk.zero (H S : List (List Nat)) (m : List Int) (n : Nat) : NoBlk H S m n 0 0 := ⟨fun _ h => by omega, fun _ h => by omega⟩
theorem NoBlk.no {H S : List (List Nat)} {m : List Int} {n h s : Nat} (hb : blkB H S m h s = false) : NoBlk H S m n h (s + 1) ↔ NoBlk H S m n h s := by
  constructor
  · intro h1; exact ⟨h1.1, fun s' h2 => h1.2 s' (by omega)⟩
  · intro h1
    refine ⟨h1.1, fun s' h2 => ?_⟩
    by_cases e : s' = s
    · rw [e]; exact hb
    · exact h1.2 s' (by omega)
theorem NoBlk.yes {H S : List (List Nat)} {m : List Int} {n h s : Nat} (hb : blkB H S m h s = true) : ¬ NoBlk H S m n h (s + 1) := fun h1 => by
  have := h1.2 s (by omega)
  rw [hb] at this; cases this
theorem NoBlk.next {H S : List (List Nat)} {m : List Int} {n h : Nat} : NoBlk H S m n h n ↔ NoBlk H S m n (h + 1) 0 := by
  constructor
  · intro h1
    refine ⟨fun h' h2 => ?_, fun _ h => by omega⟩
    by_cases e : h' = h
    · rw [e]; exact h1.2
    · exact h1.1 h' (by omega)
  · intro h1; exact ⟨fun h' h2 => h1.1 h' (by omega), h1.1 h (by omega)⟩

set_option maxRecDepth 100000 in
set_option maxHeartbeats 3200000 in
theorem blocks_any (HA SA PA : Option Addr) (n hc sc pc : Nat) (H S : List (List Nat)) (M : Option Addr) (mc : Nat) (m : List Int) (w : World) (hn : n ≤ 4) (hn1 : 1 ≤ n) (hP : PlanA w w.heap.size HA SA PA n H S) (hm : MOk m n) (hM : IntsA w w.heap.size M m) :
    Calls Try.prog 90 #[.agg #[.slice HA n hc, .slice SA n sc, .slice PA n pc], .slice M n mc] w fun e w' => ∃ X j c', e = .returned (.slice X j c') ∧ (j = 0 ↔ NoBlk H S m n n 0) ∧ Below w.heap.size w w' := by
  obtain ⟨w1, hw1⟩ : ∃ w1, w1 = w.alloc (.cells #[.slice HA n hc, .slice SA n sc, .slice PA n pc] 33) := ⟨_, rfl⟩
  have hb1 : Below w.heap.size w w1 := by subst hw1; exact (Below.refl _ _).alloc (Nat.le_refl _) _
  have hbx : w1.heap[w.heap.size]? = some (.cells #[.slice HA n hc, .slice SA n sc, .slice PA n pc] 33 (0, 0)) := by rw [hw1]; exact alloc_new _ _ _ rfl
  have hlt1 : w.heap.size < w1.heap.size := lt_of_block hbx
  have HQ : Hid (∀ w', Below w1.heap.size w1 w' → w'.cell? ⟨w.heap.size, 0, none⟩ = some (.slice HA n hc) ∧ w'.cell? ⟨w.heap.size, 1, none⟩ = some (.slice SA n sc) ∧ w'.cell? ⟨w.heap.size, 2, none⟩ = some (.slice PA n pc)) := fun w' hb => by
    have h := (hb.block _ (lt_of_block hbx)).trans hbx
    have q0 := blk_cell h 0
    have q1 := blk_cell h 1
    have q2 := blk_cell h 2
    simp only [List.getElem?_toArray, List.getElem?_cons_zero, List.getElem?_cons_succ] at q0 q1 q2
    exact ⟨q0, q1, q2⟩
  have HPO := hide (fun (h s : Nat) (hh : h < n) (hs : s < n) w' (hb : Below w.heap.size w w') => possible_any HA SA PA n hc sc pc H S h s w' hn hh hs (hP.next hb))
  have HHS := hide (fun (s : Nat) (hs : s < n) w' (hb : Below w.heap.size w w') => hands_any HA SA PA n hc sc pc H S M mc m s w' hn hs (hP.next hb) hm.len (hM.next hb))
  have HPR : Hid (IntsA w w.heap.size PA (up (List.replicate n 1))) := hP.p
  have HHR : Hid (RowsA w w.heap.size HA (upp H)) := hP.h
  have HSR : Hid (RowsA w w.heap.size SA (upp S)) := hP.s
  have HHO : Hid (SqOk H n) := hP.hok
  have HSO : Hid (SqOk S n) := hP.sok
  have HMR := hide hM
  have HMO := hide hm
  have HB := hide hb1
  have HW := hide hw1
  have HTR : Hid (∀ {p : Addr} {v : Value} {w' : World}, Below w1.heap.size w1 w' → p.block < w.heap.size → w.cell? p = some v → w'.cell? p = some v) := fun hb hp hc => (hb.cell (by omega)).trans ((hb1.cell hp).trans hc)
  obtain ⟨q0, q1, q2⟩ := HQ.out w1 (Below.refl _ _)
  clear hP hM hm hw1 hbx hb1
  go_enter Try.func90, Try.ntmps90
  go_upto_region 1 with (fail)
  rw [← HW.out]
  go_wp2
  clear q0 q1 q2
  go_loopw [5, 12] (fun v i wr => ∃ (h j c' : Nat) (X : Option Addr) (xs : List Value), h ≤ n ∧ i = .int .i64 h ∧ v = .slice X j c' ∧ j ≤ 4 * h ∧ Hid (j = 0 ↔ NoBlk H S m n h 0) ∧ Hid (wr.ownsRow w1.heap.size 106 2 (.slice X j c') j xs) ∧ Below w1.heap.size w1 wr) (fun _ i _ => n - (intOf i).toNat)
  case atStart => exact ⟨0, 0, 0, none, [], Nat.zero_le _, rfl, rfl, Nat.le_refl _, hide ⟨fun _ => NoBlk.zero _ _ _ _, fun _ => rfl⟩, hide (World.ownsRow_nil _ _ _ _), Below.refl _ _⟩
  case round =>
    obtain ⟨h, j0, c0, X0, xs0, hh, rfl, rfl, hj0, HJ0, HOW0, hbel0⟩ := hrel
    have HBE0 := hide hbel0
    obtain ⟨g00, g01, g02⟩ := HQ.out wr hbel0
    by_cases hlt : h < n
    · have hhn : (h : Int) < (n : Int) := by omega
      obtain ⟨bh, oh, A1, n1, c1, rfl, hb1', hc1, hx1, hle1, hI1⟩ := HHR.out.at_ (k := h) (by rw [upp_length, HHO.out.len]; exact hlt)
      rw [upp_getD] at hx1 hI1
      have ho1 := HHO.out.rows h hlt
      obtain rfl : n = n1 := by have := hx1.out; rw [up_length, ho1.len] at this; exact this
      have HI1 := hide hI1
      have HC1 := hide hc1
      have HO1 := hide ho1
      obtain ⟨bm, om, x, rfl, hb2, hc2, hx⟩ := HMR.out.at_ (k := h) (by rw [HMO.out.len]; exact hlt)
      have HC2 := hide hc2
      have HX := hide hx.out
      have HRK1 := hide (fun y w' (hb : Below w.heap.size w w') => rankT_any A1 n c1 w'.heap.size (up (H.getD h [])) y w' (by rw [up_length, ho1.len]) (by omega) (hI1.next hb))
      clear hx1 hI1 hc1 hc2 hx ho1 hbel0
      go_wp2
      clear g00 g01 g02
      go_loopw [5, 18] (fun v i wr => ∃ (s j c' : Nat) (X : Option Addr) (xs : List Value), s ≤ n ∧ i = .int .i64 s ∧ v = .slice X j c' ∧ j ≤ 4 * h + s ∧ Hid (j = 0 ↔ NoBlk H S m n h s) ∧ Hid (wr.ownsRow w1.heap.size 106 2 (.slice X j c') j xs) ∧ Below w1.heap.size w1 wr) (fun _ i _ => n - (intOf i).toNat)
      case atStart => exact ⟨0, j0, c0, X0, xs0, Nat.zero_le _, rfl, rfl, hj0, HJ0, HOW0, HBE0.out⟩
      case round =>
        obtain ⟨s, j, c', X, xs, hs, rfl, rfl, hj, HJ, HOW, hb⟩ := hrel
        have HBE := hide hb
        by_cases hlts : s < n
        · have hsn : (s : Int) < (n : Int) := by omega
          obtain ⟨bs, os, A2, n2, c2, rfl, hb3, hc3, hx3, hle2, hI2⟩ := HSR.out.at_ (k := s) (by rw [upp_length, HSO.out.len]; exact hlts)
          rw [upp_getD] at hx3 hI2
          have ho2 := HSO.out.rows s hlts
          obtain rfl : n = n2 := by have := hx3.out; rw [up_length, ho2.len] at this; exact this
          obtain ⟨bp, op, p', rfl, hbp, hcp, hp⟩ := HPR.out.at_ (k := s) (by rw [up_length, List.length_replicate]; exact hlts)
          obtain rfl : p' = 1 := by
            rw [← hp.out, up_getD, List.getD_eq_getElem?_getD, List.getElem?_replicate, if_pos hlts]; rfl
          have HRK2 := hide (fun y w' (hb : Below w.heap.size w w') => rankT_any A2 n c2 w'.heap.size (up (S.getD s [])) y w' (by rw [up_length, ho2.len]) (by omega) (hI2.next hb))
          have hsz := hb.size
          have k1 := HTR.out hb hb1' HC1.out
          have k2 := HTR.out hb hb2 HC2.out
          have HC3 := hide hc3
          have HCP := hide hcp
          obtain ⟨hy0, hy1, hy2⟩ := HQ.out wr hb
          have g0 : w.heap.size < wr.heap.size := by omega
          have g1 : bh < wr.heap.size := by omega
          have g2 : bm < wr.heap.size := by omega
          have HIN : Hid (∀ w', Below wr.heap.size wr w' → Below w.heap.size w w') := fun w' hb' => HB.out.trans ((hb.trans (hb'.mono hsz)).mono HB.out.size)
          have HC := hide (fun w' (hb' : Below wr.heap.size wr w') => (HPO.out h s hlt hlts w' (HIN.out w' hb')).mono fun e w9 h9 => (⟨h9.1, hb'.trans (h9.2.mono hb'.size)⟩ : e = .returned (.bool true) ∧ Below wr.heap.size wr w9))
          obtain ⟨r1, hr1⟩ : ∃ r, rankT (up (H.getD h [])) (s : Int) = r := ⟨_, rfl⟩
          obtain ⟨r2, hr2⟩ : ∃ r, rankT (up (H.getD h [])) x = r := ⟨_, rfl⟩
          have HK1 := hide (fun w' (hb' : Below wr.heap.size wr w') => (HRK1.out (s : Int) w' (HIN.out w' hb')).mono fun e w9 h9 => (⟨by rw [h9.1, hr1], by rw [← h9.2]; exact hb'⟩ : e = .returned (.int .i64 r1) ∧ Below wr.heap.size wr w9))
          have HK2 := hide (fun w' (hb' : Below wr.heap.size wr w') => (HRK1.out x w' (HIN.out w' hb')).mono fun e w9 h9 => (⟨by rw [h9.1, hr2], by rw [← h9.2]; exact hb'⟩ : e = .returned (.int .i64 r2) ∧ Below wr.heap.size wr w9))
          by_cases hwant : r1 < r2
          · have d1 : decide (r2 ≤ r1) = false := decide_eq_false (by omega)
            have HWA : Hid (decide (rankT (up (H.getD h [])) (s : Int) < rankT (up (H.getD h [])) (m.getD h 0)) = true) := by
              show decide _ = true
              rw [HX.out, hr1, hr2]; exact decide_eq_true hwant
            clear hx3 hI2 ho2 hc3 hcp hp hb hr1 hr2 hwant
            go_wp2_with fail
            refine wp_region_below (by kernel_rfl) (by kernel_rfl) ?_
            refine wpQuiet_val' (.agg #[.slice (some ⟨bh, oh, none⟩) n hc, .slice (some ⟨bs, os, none⟩) n sc, .slice (some ⟨bp, op, none⟩) n pc]) (by rfl) (fun w' hw' => by have e0 := (hw'.cell (p := ⟨w.heap.size, 0, none⟩) g0).trans hy0; have e1 := (hw'.cell (p := ⟨w.heap.size, 1, none⟩) g0).trans hy1; have e2 := (hw'.cell (p := ⟨w.heap.size, 2, none⟩) g0).trans hy2; go_simp) ?_
            simp only [put_lit, List.set_cons_succ, List.set_cons_zero]
            refine wpQuiet_val' (.int .i64 (h : Nat)) (by rfl) (fun w' hw' => by go_simp) ?_
            simp only [put_lit, List.set_cons_succ, List.set_cons_zero]
            refine wpQuiet_val' (.int .i64 (s : Nat)) (by rfl) (fun w' hw' => by go_simp) ?_
            simp only [put_lit, List.set_cons_succ, List.set_cons_zero]
            refine wpQuiet_call' 66 #[.agg #[.slice (some ⟨bh, oh, none⟩) n hc, .slice (some ⟨bs, os, none⟩) n sc, .slice (some ⟨bp, op, none⟩) n pc], .int .i64 (h : Nat), .int .i64 (s : Nat)] (.bool true) (by rfl) (fun w' hw' => by go_simp) (fun w' hw' => HC.out w' hw') ?_
            simp only [put_lit, List.set_cons_succ, List.set_cons_zero]
            refine wpQuiet_val' (.bool false) (by rfl) (fun w' hw' => by go_simp) ?_
            simp only [put_lit, List.set_cons_succ, List.set_cons_zero]
            refine wpQuiet_val' (.bool false) (by rfl) (fun w' hw' => by go_simp) ?_
            simp only [put_lit, List.set_cons_succ, List.set_cons_zero]
            refine wpQuiet_val' (.pointer (some ⟨w.heap.size, 0, none⟩)) (by rfl) (fun w' hw' => by go_simp) ?_
            simp only [put_lit, List.set_cons_succ, List.set_cons_zero]
            refine wpQuiet_val' (.slice (some ⟨bh, oh, none⟩) n hc) (by rfl) (fun w' hw' => by have e0 := (hw'.cell (p := ⟨w.heap.size, 0, none⟩) g0).trans hy0; go_simp) ?_
            simp only [put_lit, List.set_cons_succ, List.set_cons_zero]
            refine wpQuiet_val' (.int .i64 (h : Nat)) (by rfl) (fun w' hw' => by go_simp) ?_
            simp only [put_lit, List.set_cons_succ, List.set_cons_zero]
            refine wpQuiet_val' (.pointer (some ⟨bh, oh + (h : Nat), none⟩)) (by rfl) (fun w' hw' => by go_simp) ?_
            simp only [put_lit, List.set_cons_succ, List.set_cons_zero]
            refine wpQuiet_val' (.slice A1 n c1) (by rfl) (fun w' hw' => by have e0 := (hw'.cell (p := ⟨bh, oh + h, none⟩) g1).trans k1; go_simp) ?_
            simp only [put_lit, List.set_cons_succ, List.set_cons_zero]
            refine wpQuiet_val' (.int .i64 (s : Nat)) (by rfl) (fun w' hw' => by go_simp) ?_
            simp only [put_lit, List.set_cons_succ, List.set_cons_zero]
            refine wpQuiet_call' 100 #[.slice A1 n c1, .int .i64 (s : Nat)] (.int .i64 r1) (by rfl) (fun w' hw' => by go_simp) (fun w' hw' => HK1.out w' hw') ?_
            simp only [put_lit, List.set_cons_succ, List.set_cons_zero]
            refine wpQuiet_val' (.pointer (some ⟨w.heap.size, 0, none⟩)) (by rfl) (fun w' hw' => by go_simp) ?_
            simp only [put_lit, List.set_cons_succ, List.set_cons_zero]
            refine wpQuiet_val' (.slice (some ⟨bh, oh, none⟩) n hc) (by rfl) (fun w' hw' => by have e0 := (hw'.cell (p := ⟨w.heap.size, 0, none⟩) g0).trans hy0; go_simp) ?_
            simp only [put_lit, List.set_cons_succ, List.set_cons_zero]
            refine wpQuiet_val' (.int .i64 (h : Nat)) (by rfl) (fun w' hw' => by go_simp) ?_
            simp only [put_lit, List.set_cons_succ, List.set_cons_zero]
            refine wpQuiet_val' (.pointer (some ⟨bh, oh + (h : Nat), none⟩)) (by rfl) (fun w' hw' => by go_simp) ?_
            simp only [put_lit, List.set_cons_succ, List.set_cons_zero]
            refine wpQuiet_val' (.slice A1 n c1) (by rfl) (fun w' hw' => by have e0 := (hw'.cell (p := ⟨bh, oh + h, none⟩) g1).trans k1; go_simp) ?_
            simp only [put_lit, List.set_cons_succ, List.set_cons_zero]
            refine wpQuiet_val' (.slice (some ⟨bm, om, none⟩) n mc) (by rfl) (fun w' hw' => by go_simp) ?_
            simp only [put_lit, List.set_cons_succ, List.set_cons_zero]
            refine wpQuiet_val' (.int .i64 (h : Nat)) (by rfl) (fun w' hw' => by go_simp) ?_
            simp only [put_lit, List.set_cons_succ, List.set_cons_zero]
            refine wpQuiet_val' (.pointer (some ⟨bm, om + (h : Nat), none⟩)) (by rfl) (fun w' hw' => by go_simp) ?_
            simp only [put_lit, List.set_cons_succ, List.set_cons_zero]
            refine wpQuiet_val' (.int .i64 x) (by rfl) (fun w' hw' => by have e0 := (hw'.cell (p := ⟨bm, om + h, none⟩) g2).trans k2; go_simp) ?_
            simp only [put_lit, List.set_cons_succ, List.set_cons_zero]
            refine wpQuiet_call' 100 #[.slice A1 n c1, .int .i64 x] (.int .i64 r2) (by rfl) (fun w' hw' => by go_simp) (fun w' hw' => HK2.out w' hw') ?_
            simp only [put_lit, List.set_cons_succ, List.set_cons_zero]
            refine wpQuiet_val' (.bool false) (by rfl) (fun w' hw' => by go_simp) ?_
            simp only [put_lit, List.set_cons_succ, List.set_cons_zero]
            refine wpQuiet_val' (.bool false) (by rfl) (fun w' hw' => by go_simp) ?_
            simp only [put_lit, List.set_cons_succ, List.set_cons_zero]
            refine wpQuiet_nil ?_
            intro w9 hb9
            have HB9 := hide hb9
            have hz9 := hb9.size
            have HBX := hide (HBE.out.trans (hb9.mono hsz))
            obtain ⟨z0, z1, z2⟩ := HQ.out w9 HBX.out
            have HIX : Hid (Below w.heap.size w w9) := HIN.out w9 hb9
            clear hb9 hy0 hy1 hy2 k1 k2 d1
            go_upto_region 10 with (go_at_call 101; refine (HHS.out s hlts _ HIX.out).mono ?_; rintro e w5 ⟨Y, kk, cy, rfl, hlen, hkc, hY, hbz⟩)
            have hz5 := hbz.size
            have hb5 : Below w1.heap.size w1 w5 := HBX.out.trans (hbz.mono (Nat.le_trans hsz hz9))
            have HB5 := hide hb5
            have HOW5 : Hid (w5.ownsRow w1.heap.size 106 2 (.slice X j c') j xs) := own_keepS HOW.out (fun g hg => by
              have := (own_ltS HOW.out g hg).2
              exact (hbz.block g (by omega)).trans (HB9.out.block g this))
            obtain ⟨y0, y1, y2⟩ := HQ.out w5 hb5
            have k3 := HTR.out hb5 hb3 HC3.out
            have k4 := HTR.out hb5 hbp HCP.out
            have f0 : w.heap.size < w5.heap.size := by omega
            have f1 : bs < w5.heap.size := by omega
            have f2 : bp < w5.heap.size := by omega
            have s5 : w1.heap.size ≤ w5.heap.size := hb5.size
            clear z0 z1 z2
            by_cases hk0 : kk = 0
            · subst hk0
              have HYES : Hid (blkB H S m h s = true) := by
                show (decide _ && (decide _ || _)) = true
                rw [HWA.out, hlen]; rfl
              clear hY hbz hb5 hlen
              go_wp2_with fail
              refine wp_region_below (by kernel_rfl) (by kernel_rfl) ?_
              refine wpQuiet_val' (.slice Y 0 cy) (by rfl) (fun w' hw' => by go_simp) ?_
              simp only [put_lit, List.set_cons_succ, List.set_cons_zero]
              refine wpQuiet_val' (.int .i64 0) (by rfl) (fun w' hw' => by go_simp) ?_
              simp only [put_lit, List.set_cons_succ, List.set_cons_zero]
              refine wpQuiet_val' (.pointer (some ⟨w.heap.size, 2, none⟩)) (by rfl) (fun w' hw' => by go_simp) ?_
              simp only [put_lit, List.set_cons_succ, List.set_cons_zero]
              refine wpQuiet_val' (.slice (some ⟨bp, op, none⟩) n pc) (by rfl) (fun w' hw' => by have e0 := (hw'.cell (p := ⟨w.heap.size, 2, none⟩) f0).trans y2; go_simp) ?_
              simp only [put_lit, List.set_cons_succ, List.set_cons_zero]
              refine wpQuiet_val' (.int .i64 (s : Nat)) (by rfl) (fun w' hw' => by go_simp) ?_
              simp only [put_lit, List.set_cons_succ, List.set_cons_zero]
              refine wpQuiet_val' (.pointer (some ⟨bp, op + (s : Nat), none⟩)) (by rfl) (fun w' hw' => by go_simp) ?_
              simp only [put_lit, List.set_cons_succ, List.set_cons_zero]
              refine wpQuiet_val' (.int .i64 1) (by rfl) (fun w' hw' => by have e0 := (hw'.cell (p := ⟨bp, op + s, none⟩) f2).trans k4; go_simp) ?_
              simp only [put_lit, List.set_cons_succ, List.set_cons_zero]
              refine wpQuiet_val' (.bool true) (by rfl) (fun w' hw' => by go_simp) ?_
              simp only [put_lit, List.set_cons_succ, List.set_cons_zero]
              refine wpQuiet_val' (.bool true) (by rfl) (fun w' hw' => by go_simp) ?_
              simp only [put_lit, List.set_cons_succ, List.set_cons_zero]
              go_big_quiet_skip
              go_big_quiet_skip
              go_big_quiet_skip
              go_big_quiet_skip
              go_big_quiet_skip
              go_big_quiet_skip
              go_big_quiet_skip
              go_big_quiet_skip
              go_big_quiet_skip
              go_big_quiet_skip
              go_big_quiet_skip
              go_big_quiet_skip
              go_big_quiet_skip
              go_big_quiet_skip
              go_big_quiet_skip
              go_big_quiet_skip
              go_big_quiet_skip
              go_big_quiet_skip
              go_big_quiet_skip
              go_big_quiet_skip
              refine wpQuiet_val' (.bool true) (by rfl) (fun w' hw' => by go_simp) ?_
              simp only [put_lit, List.set_cons_succ, List.set_cons_zero]
              refine wpQuiet_nil ?_
              intro w9 hb9
              have HBF := hide hb9
              have hzF := hb9.size
              clear hb9
              have hone : ∀ u ∈ ([.int .i64 (h : Nat), .int .i64 (s : Nat)] : List Value), u.oneCell' = true := by simp [Value.oneCell']
              have HOW6 : Hid (w9.ownsRow w1.heap.size 106 2 (.slice X j c') j xs) := own_keepS HOW5.out (fun g hg => HBF.out.block g (own_ltS HOW5.out g hg).2)
              have HB6 := hide (HB5.out.trans (HBF.out.mono s5))
              go_wp2_with (at_builtin; refine wpList_appS (w0 := w9) _ _ 95 106 (.agg #[.int .i64 0, .int .i64 0]) 2 16 rfl rfl Try.underlying95 info_pair rfl (by decide) w1.heap.size (.slice X j c') j xs [.int .i64 (h : Nat), .int .i64 (s : Nat)] rfl rfl rfl rfl ⟨_, rfl⟩ HOW6.out hone (by omega) (by omega) (by have := HB6.out.size; omega) ?_; intro ga cg w7 hown1 hd1 hd2 hg1 hgl2 hgrow; have HOW7 := hide hown1; have HG := hide hgrow; clear hown1 hgrow)
              go_roundw
              case rel =>
                refine ⟨s + 1, j + 1, cg, some ⟨ga, 0, none⟩, _, by omega, by go_num, rfl, by omega, hide ?_, HOW7, HB6.out.grown HG.out HB6.out.size (fun q hq => (own_ltS HOW6.out q hq).1)⟩
                exact ⟨fun h9 => by omega, fun h9 => absurd h9 (NoBlk.yes HYES.out)⟩
              case measure => simp [intOf]; omega
            · have hlk : kk - 1 < kk := by omega
              obtain ⟨k0, hk1⟩ : ∃ k0, kk - 1 = k0 := ⟨_, rfl⟩
              obtain ⟨bv, oy, gg, rfl, hby, hcy, hgg⟩ := hY.at_ (k := k0) (by rw [up_length, hlen]; omega)
              rw [up_getD] at hgg
              have hg9 := hgg.out
              obtain ⟨q, hq⟩ : ∃ q, (handsN S m s).getD k0 0 = q := ⟨_, rfl⟩
              rw [hq] at hg9
              subst hg9
              obtain ⟨r3, hr3⟩ : ∃ r, rankT (up (S.getD s [])) (h : Int) = r := ⟨_, rfl⟩
              obtain ⟨r4, hr4⟩ : ∃ r, rankT (up (S.getD s [])) (q : Int) = r := ⟨_, rfl⟩
              have HIN5 : Hid (∀ w', Below w5.heap.size w5 w' → Below w.heap.size w w') := fun w' hb' => HB.out.trans ((hb5.trans (hb'.mono s5)).mono HB.out.size)
              have HK3 := hide (fun w' (hb' : Below w5.heap.size w5 w') => (HRK2.out (h : Int) w' (HIN5.out w' hb')).mono fun e w9 h9 => (⟨by rw [h9.1, hr3], by rw [← h9.2]; exact hb'⟩ : e = .returned (.int .i64 r3) ∧ Below w5.heap.size w5 w9))
              have HK4 := hide (fun w' (hb' : Below w5.heap.size w5 w') => (HRK2.out (q : Int) w' (HIN5.out w' hb')).mono fun e w9 h9 => (⟨by rw [h9.1, hr4], by rw [← h9.2]; exact hb'⟩ : e = .returned (.int .i64 r4) ∧ Below w5.heap.size w5 w9))
              have HBL : Hid (blkB H S m h s = decide (r3 < r4)) := by
                show (decide _ && (decide _ || decide (_ < rankT _ _))) = _
                rw [HWA.out, hlen, hk1, hq, hr3, hr4, decide_eq_false hk0]; rfl
              have kn : decide ((kk : Int) < 1) = false := decide_eq_false (by omega)
              have kk4 : kk ≤ 4 := by rw [← hlen]; exact Nat.le_trans (List.length_filter_le _ _) (by rw [(HSO.out.rows s hlts).len]; omega)
              have kw : wrap64 ((kk : Int) - 1) = (k0 : Int) := by unfold wrap64; omega
              have kw2 : IntKind.i64.wrap ((kk : Int) - 1) = (k0 : Int) := by rw [IntKind.wrap_i64]; omega
              have ky : (k0 : Int) < (kk : Int) := by omega
              by_cases hrr : r3 < r4
              · have d2 : decide (r3 < r4) = true := decide_eq_true hrr
                have HYES : Hid (blkB H S m h s = true) := by
                  show blkB H S m h s = true
                  rw [HBL.out, d2]
                clear hY hbz hb5 hlen hgg hr3 hr4 hrr hq hk1 hlk hk0
                go_wp2_with fail
                refine wp_region_below (by kernel_rfl) (by kernel_rfl) ?_
                refine wpQuiet_val' (.slice (some ⟨bv, oy, none⟩) kk cy) (by rfl) (fun w' hw' => by go_simp) ?_
                simp only [put_lit, List.set_cons_succ, List.set_cons_zero]
                refine wpQuiet_val' (.int .i64 kk) (by rfl) (fun w' hw' => by go_simp) ?_
                simp only [put_lit, List.set_cons_succ, List.set_cons_zero]
                refine wpQuiet_val' (.pointer (some ⟨w.heap.size, 2, none⟩)) (by rfl) (fun w' hw' => by go_simp) ?_
                simp only [put_lit, List.set_cons_succ, List.set_cons_zero]
                refine wpQuiet_val' (.slice (some ⟨bp, op, none⟩) n pc) (by rfl) (fun w' hw' => by have e0 := (hw'.cell (p := ⟨w.heap.size, 2, none⟩) f0).trans y2; go_simp) ?_
                simp only [put_lit, List.set_cons_succ, List.set_cons_zero]
                refine wpQuiet_val' (.int .i64 (s : Nat)) (by rfl) (fun w' hw' => by go_simp) ?_
                simp only [put_lit, List.set_cons_succ, List.set_cons_zero]
                refine wpQuiet_val' (.pointer (some ⟨bp, op + (s : Nat), none⟩)) (by rfl) (fun w' hw' => by go_simp) ?_
                simp only [put_lit, List.set_cons_succ, List.set_cons_zero]
                refine wpQuiet_val' (.int .i64 1) (by rfl) (fun w' hw' => by have e0 := (hw'.cell (p := ⟨bp, op + s, none⟩) f2).trans k4; go_simp) ?_
                simp only [put_lit, List.set_cons_succ, List.set_cons_zero]
                refine wpQuiet_val' (.bool false) (by rfl) (fun w' hw' => by go_simp) ?_
                simp only [put_lit, List.set_cons_succ, List.set_cons_zero]
                refine wpQuiet_val' (.bool false) (by rfl) (fun w' hw' => by go_simp) ?_
                simp only [put_lit, List.set_cons_succ, List.set_cons_zero]
                refine wpQuiet_val' (.pointer (some ⟨w.heap.size, 1, none⟩)) (by rfl) (fun w' hw' => by go_simp) ?_
                simp only [put_lit, List.set_cons_succ, List.set_cons_zero]
                refine wpQuiet_val' (.slice (some ⟨bs, os, none⟩) n sc) (by rfl) (fun w' hw' => by have e0 := (hw'.cell (p := ⟨w.heap.size, 1, none⟩) f0).trans y1; go_simp) ?_
                simp only [put_lit, List.set_cons_succ, List.set_cons_zero]
                refine wpQuiet_val' (.int .i64 (s : Nat)) (by rfl) (fun w' hw' => by go_simp) ?_
                simp only [put_lit, List.set_cons_succ, List.set_cons_zero]
                refine wpQuiet_val' (.pointer (some ⟨bs, os + (s : Nat), none⟩)) (by rfl) (fun w' hw' => by go_simp) ?_
                simp only [put_lit, List.set_cons_succ, List.set_cons_zero]
                refine wpQuiet_val' (.slice A2 n c2) (by rfl) (fun w' hw' => by have e0 := (hw'.cell (p := ⟨bs, os + s, none⟩) f1).trans k3; go_simp) ?_
                simp only [put_lit, List.set_cons_succ, List.set_cons_zero]
                refine wpQuiet_val' (.int .i64 (h : Nat)) (by rfl) (fun w' hw' => by go_simp) ?_
                simp only [put_lit, List.set_cons_succ, List.set_cons_zero]
                refine wpQuiet_call' 100 #[.slice A2 n c2, .int .i64 (h : Nat)] (.int .i64 r3) (by rfl) (fun w' hw' => by go_simp) (fun w' hw' => HK3.out w' hw') ?_
                simp only [put_lit, List.set_cons_succ, List.set_cons_zero]
                refine wpQuiet_val' (.pointer (some ⟨w.heap.size, 1, none⟩)) (by rfl) (fun w' hw' => by go_simp) ?_
                simp only [put_lit, List.set_cons_succ, List.set_cons_zero]
                refine wpQuiet_val' (.slice (some ⟨bs, os, none⟩) n sc) (by rfl) (fun w' hw' => by have e0 := (hw'.cell (p := ⟨w.heap.size, 1, none⟩) f0).trans y1; go_simp) ?_
                simp only [put_lit, List.set_cons_succ, List.set_cons_zero]
                refine wpQuiet_val' (.int .i64 (s : Nat)) (by rfl) (fun w' hw' => by go_simp) ?_
                simp only [put_lit, List.set_cons_succ, List.set_cons_zero]
                refine wpQuiet_val' (.pointer (some ⟨bs, os + (s : Nat), none⟩)) (by rfl) (fun w' hw' => by go_simp) ?_
                simp only [put_lit, List.set_cons_succ, List.set_cons_zero]
                refine wpQuiet_val' (.slice A2 n c2) (by rfl) (fun w' hw' => by have e0 := (hw'.cell (p := ⟨bs, os + s, none⟩) f1).trans k3; go_simp) ?_
                simp only [put_lit, List.set_cons_succ, List.set_cons_zero]
                refine wpQuiet_val' (.slice (some ⟨bv, oy, none⟩) kk cy) (by rfl) (fun w' hw' => by go_simp) ?_
                simp only [put_lit, List.set_cons_succ, List.set_cons_zero]
                refine wpQuiet_val' (.slice (some ⟨bv, oy, none⟩) kk cy) (by rfl) (fun w' hw' => by go_simp) ?_
                simp only [put_lit, List.set_cons_succ, List.set_cons_zero]
                refine wpQuiet_val' (.int .i64 kk) (by rfl) (fun w' hw' => by go_simp) ?_
                simp only [put_lit, List.set_cons_succ, List.set_cons_zero]
                refine wpQuiet_val' (.int .i64 (k0 : Nat)) (by rfl) (fun w' hw' => by go_simp) ?_
                simp only [put_lit, List.set_cons_succ, List.set_cons_zero]
                refine wpQuiet_val' (.pointer (some ⟨bv, oy + (k0 : Nat), none⟩)) (by rfl) (fun w' hw' => by go_simp) ?_
                simp only [put_lit, List.set_cons_succ, List.set_cons_zero]
                refine wpQuiet_val' (.int .i64 (q : Nat)) (by rfl) (fun w' hw' => by have e0 := (hw'.cell (p := ⟨bv, oy + k0, none⟩) hby).trans hcy; go_simp) ?_
                simp only [put_lit, List.set_cons_succ, List.set_cons_zero]
                refine wpQuiet_call' 100 #[.slice A2 n c2, .int .i64 (q : Nat)] (.int .i64 r4) (by rfl) (fun w' hw' => by go_simp) (fun w' hw' => HK4.out w' hw') ?_
                simp only [put_lit, List.set_cons_succ, List.set_cons_zero]
                refine wpQuiet_val' (.bool true) (by rfl) (fun w' hw' => by go_simp) ?_
                simp only [put_lit, List.set_cons_succ, List.set_cons_zero]
                refine wpQuiet_val' (.bool true) (by rfl) (fun w' hw' => by go_simp) ?_
                simp only [put_lit, List.set_cons_succ, List.set_cons_zero]
                refine wpQuiet_nil ?_
                intro w9 hb9
                have HBF := hide hb9
                have hzF := hb9.size
                clear hb9
                have hone : ∀ u ∈ ([.int .i64 (h : Nat), .int .i64 (s : Nat)] : List Value), u.oneCell' = true := by simp [Value.oneCell']
                have HOW6 : Hid (w9.ownsRow w1.heap.size 106 2 (.slice X j c') j xs) := own_keepS HOW5.out (fun g hg => HBF.out.block g (own_ltS HOW5.out g hg).2)
                have HB6 := hide (HB5.out.trans (HBF.out.mono s5))
                go_wp2_with (at_builtin; refine wpList_appS (w0 := w9) _ _ 95 106 (.agg #[.int .i64 0, .int .i64 0]) 2 16 rfl rfl Try.underlying95 info_pair rfl (by decide) w1.heap.size (.slice X j c') j xs [.int .i64 (h : Nat), .int .i64 (s : Nat)] rfl rfl rfl rfl ⟨_, rfl⟩ HOW6.out hone (by omega) (by omega) (by have := HB6.out.size; omega) ?_; intro ga cg w7 hown1 hd1 hd2 hg1 hgl2 hgrow; have HOW7 := hide hown1; have HG := hide hgrow; clear hown1 hgrow)
                go_roundw
                case rel =>
                  refine ⟨s + 1, j + 1, cg, some ⟨ga, 0, none⟩, _, by omega, by go_num, rfl, by omega, hide ?_, HOW7, HB6.out.grown HG.out HB6.out.size (fun q hq => (own_ltS HOW6.out q hq).1)⟩
                  exact ⟨fun h9 => by omega, fun h9 => absurd h9 (NoBlk.yes HYES.out)⟩
                case measure => simp [intOf]; omega
              · have d2 : decide (r3 < r4) = false := decide_eq_false hrr
                have HNO : Hid (blkB H S m h s = false) := by
                  show blkB H S m h s = false
                  rw [HBL.out, d2]
                clear hY hbz hb5 hlen hgg hr3 hr4 hrr hq hk1 hlk hk0
                go_wp2_with fail
                refine wp_region_below (by kernel_rfl) (by kernel_rfl) ?_
                refine wpQuiet_val' (.slice (some ⟨bv, oy, none⟩) kk cy) (by rfl) (fun w' hw' => by go_simp) ?_
                simp only [put_lit, List.set_cons_succ, List.set_cons_zero]
                refine wpQuiet_val' (.int .i64 kk) (by rfl) (fun w' hw' => by go_simp) ?_
                simp only [put_lit, List.set_cons_succ, List.set_cons_zero]
                refine wpQuiet_val' (.pointer (some ⟨w.heap.size, 2, none⟩)) (by rfl) (fun w' hw' => by go_simp) ?_
                simp only [put_lit, List.set_cons_succ, List.set_cons_zero]
                refine wpQuiet_val' (.slice (some ⟨bp, op, none⟩) n pc) (by rfl) (fun w' hw' => by have e0 := (hw'.cell (p := ⟨w.heap.size, 2, none⟩) f0).trans y2; go_simp) ?_
                simp only [put_lit, List.set_cons_succ, List.set_cons_zero]
                refine wpQuiet_val' (.int .i64 (s : Nat)) (by rfl) (fun w' hw' => by go_simp) ?_
                simp only [put_lit, List.set_cons_succ, List.set_cons_zero]
                refine wpQuiet_val' (.pointer (some ⟨bp, op + (s : Nat), none⟩)) (by rfl) (fun w' hw' => by go_simp) ?_
                simp only [put_lit, List.set_cons_succ, List.set_cons_zero]
                refine wpQuiet_val' (.int .i64 1) (by rfl) (fun w' hw' => by have e0 := (hw'.cell (p := ⟨bp, op + s, none⟩) f2).trans k4; go_simp) ?_
                simp only [put_lit, List.set_cons_succ, List.set_cons_zero]
                refine wpQuiet_val' (.bool false) (by rfl) (fun w' hw' => by go_simp) ?_
                simp only [put_lit, List.set_cons_succ, List.set_cons_zero]
                refine wpQuiet_val' (.bool false) (by rfl) (fun w' hw' => by go_simp) ?_
                simp only [put_lit, List.set_cons_succ, List.set_cons_zero]
                refine wpQuiet_val' (.pointer (some ⟨w.heap.size, 1, none⟩)) (by rfl) (fun w' hw' => by go_simp) ?_
                simp only [put_lit, List.set_cons_succ, List.set_cons_zero]
                refine wpQuiet_val' (.slice (some ⟨bs, os, none⟩) n sc) (by rfl) (fun w' hw' => by have e0 := (hw'.cell (p := ⟨w.heap.size, 1, none⟩) f0).trans y1; go_simp) ?_
                simp only [put_lit, List.set_cons_succ, List.set_cons_zero]
                refine wpQuiet_val' (.int .i64 (s : Nat)) (by rfl) (fun w' hw' => by go_simp) ?_
                simp only [put_lit, List.set_cons_succ, List.set_cons_zero]
                refine wpQuiet_val' (.pointer (some ⟨bs, os + (s : Nat), none⟩)) (by rfl) (fun w' hw' => by go_simp) ?_
                simp only [put_lit, List.set_cons_succ, List.set_cons_zero]
                refine wpQuiet_val' (.slice A2 n c2) (by rfl) (fun w' hw' => by have e0 := (hw'.cell (p := ⟨bs, os + s, none⟩) f1).trans k3; go_simp) ?_
                simp only [put_lit, List.set_cons_succ, List.set_cons_zero]
                refine wpQuiet_val' (.int .i64 (h : Nat)) (by rfl) (fun w' hw' => by go_simp) ?_
                simp only [put_lit, List.set_cons_succ, List.set_cons_zero]
                refine wpQuiet_call' 100 #[.slice A2 n c2, .int .i64 (h : Nat)] (.int .i64 r3) (by rfl) (fun w' hw' => by go_simp) (fun w' hw' => HK3.out w' hw') ?_
                simp only [put_lit, List.set_cons_succ, List.set_cons_zero]
                refine wpQuiet_val' (.pointer (some ⟨w.heap.size, 1, none⟩)) (by rfl) (fun w' hw' => by go_simp) ?_
                simp only [put_lit, List.set_cons_succ, List.set_cons_zero]
                refine wpQuiet_val' (.slice (some ⟨bs, os, none⟩) n sc) (by rfl) (fun w' hw' => by have e0 := (hw'.cell (p := ⟨w.heap.size, 1, none⟩) f0).trans y1; go_simp) ?_
                simp only [put_lit, List.set_cons_succ, List.set_cons_zero]
                refine wpQuiet_val' (.int .i64 (s : Nat)) (by rfl) (fun w' hw' => by go_simp) ?_
                simp only [put_lit, List.set_cons_succ, List.set_cons_zero]
                refine wpQuiet_val' (.pointer (some ⟨bs, os + (s : Nat), none⟩)) (by rfl) (fun w' hw' => by go_simp) ?_
                simp only [put_lit, List.set_cons_succ, List.set_cons_zero]
                refine wpQuiet_val' (.slice A2 n c2) (by rfl) (fun w' hw' => by have e0 := (hw'.cell (p := ⟨bs, os + s, none⟩) f1).trans k3; go_simp) ?_
                simp only [put_lit, List.set_cons_succ, List.set_cons_zero]
                refine wpQuiet_val' (.slice (some ⟨bv, oy, none⟩) kk cy) (by rfl) (fun w' hw' => by go_simp) ?_
                simp only [put_lit, List.set_cons_succ, List.set_cons_zero]
                refine wpQuiet_val' (.slice (some ⟨bv, oy, none⟩) kk cy) (by rfl) (fun w' hw' => by go_simp) ?_
                simp only [put_lit, List.set_cons_succ, List.set_cons_zero]
                refine wpQuiet_val' (.int .i64 kk) (by rfl) (fun w' hw' => by go_simp) ?_
                simp only [put_lit, List.set_cons_succ, List.set_cons_zero]
                refine wpQuiet_val' (.int .i64 (k0 : Nat)) (by rfl) (fun w' hw' => by go_simp) ?_
                simp only [put_lit, List.set_cons_succ, List.set_cons_zero]
                refine wpQuiet_val' (.pointer (some ⟨bv, oy + (k0 : Nat), none⟩)) (by rfl) (fun w' hw' => by go_simp) ?_
                simp only [put_lit, List.set_cons_succ, List.set_cons_zero]
                refine wpQuiet_val' (.int .i64 (q : Nat)) (by rfl) (fun w' hw' => by have e0 := (hw'.cell (p := ⟨bv, oy + k0, none⟩) hby).trans hcy; go_simp) ?_
                simp only [put_lit, List.set_cons_succ, List.set_cons_zero]
                refine wpQuiet_call' 100 #[.slice A2 n c2, .int .i64 (q : Nat)] (.int .i64 r4) (by rfl) (fun w' hw' => by go_simp) (fun w' hw' => HK4.out w' hw') ?_
                simp only [put_lit, List.set_cons_succ, List.set_cons_zero]
                refine wpQuiet_val' (.bool false) (by rfl) (fun w' hw' => by go_simp) ?_
                simp only [put_lit, List.set_cons_succ, List.set_cons_zero]
                refine wpQuiet_val' (.bool false) (by rfl) (fun w' hw' => by go_simp) ?_
                simp only [put_lit, List.set_cons_succ, List.set_cons_zero]
                refine wpQuiet_nil ?_
                intro w9 hb9
                have HBF := hide hb9
                clear hb9
                go_wp2
                go_roundw
                case rel =>
                  exact ⟨s + 1, j, c', X, xs, by omega, by go_num, rfl, by omega, hide (by rw [NoBlk.no HNO.out]; exact HJ.out), hide (own_keepS HOW5.out (fun g hg => HBF.out.block g (own_ltS HOW5.out g hg).2)), HB5.out.trans (HBF.out.mono s5)⟩
                case measure => simp [intOf]; omega
          · have d1 : decide (r2 ≤ r1) = true := decide_eq_true (by omega)
            have HNO : Hid (blkB H S m h s = false) := by
              show (decide _ && _) = false
              rw [HX.out, hr1, hr2, decide_eq_false hwant]; rfl
            clear hx3 hI2 ho2 hc3 hcp hp hb hr1 hr2 hwant
            go_wp2_with fail
            refine wp_region_below (by kernel_rfl) (by kernel_rfl) ?_
            refine wpQuiet_val' (.agg #[.slice (some ⟨bh, oh, none⟩) n hc, .slice (some ⟨bs, os, none⟩) n sc, .slice (some ⟨bp, op, none⟩) n pc]) (by rfl) (fun w' hw' => by have e0 := (hw'.cell (p := ⟨w.heap.size, 0, none⟩) g0).trans hy0; have e1 := (hw'.cell (p := ⟨w.heap.size, 1, none⟩) g0).trans hy1; have e2 := (hw'.cell (p := ⟨w.heap.size, 2, none⟩) g0).trans hy2; go_simp) ?_
            simp only [put_lit, List.set_cons_succ, List.set_cons_zero]
            refine wpQuiet_val' (.int .i64 (h : Nat)) (by rfl) (fun w' hw' => by go_simp) ?_
            simp only [put_lit, List.set_cons_succ, List.set_cons_zero]
            refine wpQuiet_val' (.int .i64 (s : Nat)) (by rfl) (fun w' hw' => by go_simp) ?_
            simp only [put_lit, List.set_cons_succ, List.set_cons_zero]
            refine wpQuiet_call' 66 #[.agg #[.slice (some ⟨bh, oh, none⟩) n hc, .slice (some ⟨bs, os, none⟩) n sc, .slice (some ⟨bp, op, none⟩) n pc], .int .i64 (h : Nat), .int .i64 (s : Nat)] (.bool true) (by rfl) (fun w' hw' => by go_simp) (fun w' hw' => HC.out w' hw') ?_
            simp only [put_lit, List.set_cons_succ, List.set_cons_zero]
            refine wpQuiet_val' (.bool false) (by rfl) (fun w' hw' => by go_simp) ?_
            simp only [put_lit, List.set_cons_succ, List.set_cons_zero]
            refine wpQuiet_val' (.bool false) (by rfl) (fun w' hw' => by go_simp) ?_
            simp only [put_lit, List.set_cons_succ, List.set_cons_zero]
            refine wpQuiet_val' (.pointer (some ⟨w.heap.size, 0, none⟩)) (by rfl) (fun w' hw' => by go_simp) ?_
            simp only [put_lit, List.set_cons_succ, List.set_cons_zero]
            refine wpQuiet_val' (.slice (some ⟨bh, oh, none⟩) n hc) (by rfl) (fun w' hw' => by have e0 := (hw'.cell (p := ⟨w.heap.size, 0, none⟩) g0).trans hy0; go_simp) ?_
            simp only [put_lit, List.set_cons_succ, List.set_cons_zero]
            refine wpQuiet_val' (.int .i64 (h : Nat)) (by rfl) (fun w' hw' => by go_simp) ?_
            simp only [put_lit, List.set_cons_succ, List.set_cons_zero]
            refine wpQuiet_val' (.pointer (some ⟨bh, oh + (h : Nat), none⟩)) (by rfl) (fun w' hw' => by go_simp) ?_
            simp only [put_lit, List.set_cons_succ, List.set_cons_zero]
            refine wpQuiet_val' (.slice A1 n c1) (by rfl) (fun w' hw' => by have e0 := (hw'.cell (p := ⟨bh, oh + h, none⟩) g1).trans k1; go_simp) ?_
            simp only [put_lit, List.set_cons_succ, List.set_cons_zero]
            refine wpQuiet_val' (.int .i64 (s : Nat)) (by rfl) (fun w' hw' => by go_simp) ?_
            simp only [put_lit, List.set_cons_succ, List.set_cons_zero]
            refine wpQuiet_call' 100 #[.slice A1 n c1, .int .i64 (s : Nat)] (.int .i64 r1) (by rfl) (fun w' hw' => by go_simp) (fun w' hw' => HK1.out w' hw') ?_
            simp only [put_lit, List.set_cons_succ, List.set_cons_zero]
            refine wpQuiet_val' (.pointer (some ⟨w.heap.size, 0, none⟩)) (by rfl) (fun w' hw' => by go_simp) ?_
            simp only [put_lit, List.set_cons_succ, List.set_cons_zero]
            refine wpQuiet_val' (.slice (some ⟨bh, oh, none⟩) n hc) (by rfl) (fun w' hw' => by have e0 := (hw'.cell (p := ⟨w.heap.size, 0, none⟩) g0).trans hy0; go_simp) ?_
            simp only [put_lit, List.set_cons_succ, List.set_cons_zero]
            refine wpQuiet_val' (.int .i64 (h : Nat)) (by rfl) (fun w' hw' => by go_simp) ?_
            simp only [put_lit, List.set_cons_succ, List.set_cons_zero]
            refine wpQuiet_val' (.pointer (some ⟨bh, oh + (h : Nat), none⟩)) (by rfl) (fun w' hw' => by go_simp) ?_
            simp only [put_lit, List.set_cons_succ, List.set_cons_zero]
            refine wpQuiet_val' (.slice A1 n c1) (by rfl) (fun w' hw' => by have e0 := (hw'.cell (p := ⟨bh, oh + h, none⟩) g1).trans k1; go_simp) ?_
            simp only [put_lit, List.set_cons_succ, List.set_cons_zero]
            refine wpQuiet_val' (.slice (some ⟨bm, om, none⟩) n mc) (by rfl) (fun w' hw' => by go_simp) ?_
            simp only [put_lit, List.set_cons_succ, List.set_cons_zero]
            refine wpQuiet_val' (.int .i64 (h : Nat)) (by rfl) (fun w' hw' => by go_simp) ?_
            simp only [put_lit, List.set_cons_succ, List.set_cons_zero]
            refine wpQuiet_val' (.pointer (some ⟨bm, om + (h : Nat), none⟩)) (by rfl) (fun w' hw' => by go_simp) ?_
            simp only [put_lit, List.set_cons_succ, List.set_cons_zero]
            refine wpQuiet_val' (.int .i64 x) (by rfl) (fun w' hw' => by have e0 := (hw'.cell (p := ⟨bm, om + h, none⟩) g2).trans k2; go_simp) ?_
            simp only [put_lit, List.set_cons_succ, List.set_cons_zero]
            refine wpQuiet_call' 100 #[.slice A1 n c1, .int .i64 x] (.int .i64 r2) (by rfl) (fun w' hw' => by go_simp) (fun w' hw' => HK2.out w' hw') ?_
            simp only [put_lit, List.set_cons_succ, List.set_cons_zero]
            refine wpQuiet_val' (.bool true) (by rfl) (fun w' hw' => by go_simp) ?_
            simp only [put_lit, List.set_cons_succ, List.set_cons_zero]
            refine wpQuiet_val' (.bool true) (by rfl) (fun w' hw' => by go_simp) ?_
            simp only [put_lit, List.set_cons_succ, List.set_cons_zero]
            refine wpQuiet_nil ?_
            intro w9 hb9
            have HB9 := hide hb9
            clear hb9 hy0 hy1 hy2 k1 k2 d1
            go_wp2
            go_roundw
            case rel =>
              exact ⟨s + 1, j, c', X, xs, by omega, by go_num, rfl, by omega, hide (by rw [NoBlk.no HNO.out]; exact HJ.out), hide (own_keepS HOW.out (fun g hg => HB9.out.block g (own_ltS HOW.out g hg).2)), HBE.out.trans (HB9.out.mono hsz)⟩
            case measure => simp [intOf]; omega
        · obtain rfl : n = s := by omega
          clear hb
          go_wp2
          go_roundw
          case rel => exact ⟨h + 1, j, c', X, xs, by omega, by go_num, rfl, by omega, hide (by rw [← NoBlk.next]; exact HJ.out), HOW, HBE.out⟩
          case measure => simp [intOf]; omega
    · obtain rfl : n = h := by omega
      clear hbel0
      go_wp2
      go_ret
      exact ⟨X0, j0, c0, rfl, HJ0.out, HB.out.trans (HBE0.out.mono HB.out.size)⟩
end Go.Proofs.Ytgognkofnegobaa
