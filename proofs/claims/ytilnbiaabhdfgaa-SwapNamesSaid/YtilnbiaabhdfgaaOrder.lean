/-
  swap.Order.
-/
import Derived.Test.YtilnbiaabhdfgaaBetter
import Derived.Test.YtilnbiaabhdfgaaBase
import Derived.Deep.RegionHeld3
namespace Go.Proofs.Ytilnbiaabhdfgaa
open Go.RowKit
set_option linter.unusedVariables false
set_option linter.unusedSimpArgs false

theorem up_inj {a b : List Nat} : up a = up b ↔ a = b := by
  constructor
  · intro h
    have : (up a).map Int.toNat = (up b).map Int.toNat := by rw [h]
    simpa [up, List.map_map, Function.comp_def] using this
  · rintro rfl; rfl

/-- How the memory stands when Order's orders begin. -/
structure OMem (n fb : Nat) (w0 : World) (xb ob : Nat) (A X : Option Addr) (c cx : Nat) (W : List (List Nat)) (o : List Nat) : Prop where
  hx : w0.heap[xb]? = some (.cells #[.slice A n c] 49 (0, 0))
  ho : w0.heap[ob]? = some (.cells #[.slice X n cx] 23 (0, 0))
  lt : xb < fb ∧ ob < fb
  rows : RowsA w0 fb A (upp W)
  ints : IntsA w0 fb X (up o)

theorem goes_order1 : Goes Try.prog 65 := goes_of Try.func65 rfl rfl

set_option maxRecDepth 100000 in
set_option maxHeartbeats 1600000 in
theorem order1_any {n fb : Nat} {w0 : World} {xb ob : Nat} {A X : Option Addr} {c cx : Nat} {W : List (List Nat)} {o : List Nat} (hn : n ≤ 59) (hn1 : 1 ≤ n) (hB : OMem n fb w0 xb ob A X c cx W o) (hlen : W.length = n) (hrows : ∀ i, i < n → Ord (W.getD i []) n) (ho : Ord o n)
    (F : Nat → Prop) (s : Option (List Nat)) (w : World) (Y : Option Addr) (cy : Nat) (l : List Nat) (hl : Ord l n) (hi : FInv fb w0 F s w) (hY : IntsA w w.heap.size Y (up l)) (hcy : n ≤ cy) :
    Calls Try.prog 65 (#[.slice Y n cy] ++ #[.pointer (some ⟨xb, 0, none⟩), .pointer (some ⟨ob, 0, none⟩), .pointer (some ⟨fb, 0, none⟩)]) w (FPost (fun y => decide (chooseN W y = o)) fb w0 F s l w) := by
  obtain ⟨A0, c0, hm⟩ := hi
  have hq := fun (w : World) (a : Option Addr) (n c n' c' : Nat) => Lib.run_eql_slice_nil (P := Try.prog) w 23 _ a n c n' c' Try.underlying23
  have hfb := lt_of_block hm.box
  have hlt := hB.lt
  have k0 := blk_cell ((hm.old xb hlt.1).trans hB.hx) 0
  have k2 := blk_cell ((hm.old ob hlt.2).trans hB.ho) 0
  simp only [List.getElem?_toArray, List.getElem?_cons_zero] at k0 k2
  have hA : RowsA w fb A (upp W) := hB.rows.keep fun p hp => World.cell?_of_block (hm.old p.block hp)
  have hX : IntsA w fb X (up o) := hB.ints.keep fun p hp => World.cell?_of_block (hm.old p.block hp)
  have HC : Hid (∀ w', Below w.heap.size w w' → Calls Try.prog 54 #[.slice A n c, .slice Y n cy] w' (OneRow n (chooseN W l) w')) := fun w' hw' =>
    choose_any A Y n c cy w.heap.size w.heap.size W l w' (by omega) hlen hrows (hA.top.below hw') hl (hY.below hw')
  have HX := hide hX.top
  have hcl : (chooseN W l).length = n := by rw [chooseN, listF, List.length_map, List.length_range, hlen]
  have HCL := hide hcl
  have HOL := hide ho.len
  generalize hr : decide (chooseN W l = o) = r at *
  have HR := hide hr
  have HM := hide hm
  have HL := hide hl
  have hx : xb < w.heap.size := by omega
  have hob : ob < w.heap.size := by omega
  simp only [List.append_toArray, List.cons_append, List.nil_append]
  clear hm hl hr hA hX hB hlen hrows ho hcl
  go_enter Try.func65, Try.ntmps65
  go_wp2
  go_region_held3 (fun w' => w'.cell? ⟨xb, 0, none⟩ = some (.slice A n c) ∧ w'.cell? ⟨ob, 0, none⟩ = some (.slice X n cx)) (first | exact ⟨k0', k2'⟩ | go_keep)
    (first
      | (go_at_call 54; refine (HC.out _ ((Below.refl _ _).drew)).mono ?_; rintro e w1 ⟨O, co, rfl, hO, hb1', hnew⟩; have hb1 : Below w.heap.size w w1 := ((Below.refl _ _).drew).trans hb1'; have k0' := (hb1.cell (p := ⟨xb, 0, none⟩) hx).trans k0; have k2' := (hb1.cell (p := ⟨ob, 0, none⟩) hob).trans k2)
      | (go_at_call 25; refine (equal_any O X n n co cx w1.heap.size w1.heap.size (up (chooseN W l)) (up o) w1 (by rw [up_length]; exact HCL.out) (by rw [up_length]; exact HOL.out) (by omega) hO (HX.out.next hb1)).mono ?_; rintro e w2 ⟨rfl, m, rfl⟩))
  have hbm : Below w.heap.size w (w1.drewN m) := below_drewN hb1 m
  have e0 : decide (up (chooseN W l) = up o) = r := by rw [← HR.out, Bool.eq_iff_iff]; simp [up_inj]
  rw [e0]
  generalize w1.drewN m = w2 at *
  have h1 := HM.out.next hbm
  have f0 := blk_cell h1.box 0
  have f1 := blk_free h1.box 0
  simp only [List.getElem?_toArray, List.getElem?_cons_zero] at f0
  have hsz1 := hbm.size
  clear hO hb1 hb1' hnew k0' k2' e0
  cases r
  · cases s with
    | none =>
      obtain ⟨rfl, rfl⟩ := h1.no rfl
      have H1 := hide h1
      clear h1
      simp only [lenO] at f0
      go_wp2
      go_ret
      have e : findStep (fun y => decide (chooseN W y = o)) none l = (true, none) := by simp [findStep, of_decide_eq_false HR.out]
      exact ⟨F, by rw [e]; rfl, by rw [e]; exact ⟨_, _, H1.out⟩, fun k hk => .inl hk, H1.out.lt, Only.of_below hbm⟩
    | some l0 =>
      obtain ⟨b, o', rfl, hb⟩ := h1.addr rfl
      have H1 := hide h1
      clear h1
      go_wp2
      go_ret
      have e : findStep (fun y => decide (chooseN W y = o)) (some l0) l = (false, some l0) := by simp [findStep, of_decide_eq_false HR.out]
      exact ⟨F, by rw [e]; rfl, by rw [e]; exact ⟨_, _, H1.out⟩, fun k hk => .inl hk, H1.out.lt, Only.of_below hbm⟩
  · have H1 := hide h1
    clear h1
    have HCP := hide (clone_any Y n cy w2.heap.size (up l) w2 (by rw [up_length]; exact HL.out.len) (by omega) (hY.next hbm))
    go_wp2_with (go_at_call 60; refine (HCP.out).mono ?_; rintro e w3 ⟨A', c', rfl, hc', hI', hnil, hb2, hnew⟩; obtain ⟨F', hm', hF'⟩ := H1.out.put hb2 (n := n) HL.out.len hn1 hc' hI' hnew; have f2 := blk_cell (H1.out.next hb2).box 0; have f3 := blk_free (H1.out.next hb2).box 0; simp only [List.getElem?_toArray, List.getElem?_cons_zero] at f2; have g2 := blk_cell hm'.box 0; simp only [List.getElem?_toArray, List.getElem?_cons_zero] at g2; obtain ⟨b', o', hA', hb'⟩ := hm'.addr rfl; subst hA'; have HM' := hide hm'; have HF' := hide hF'; have HB2 := hide hb2; clear hm' hF' hI' hnil hnew hb2)
    go_ret
    have e : findStep (fun y => decide (chooseN W y = o)) s l = (false, some l) := by simp [findStep, of_decide_eq_true HR.out]
    refine ⟨F', by rw [e]; rfl, by rw [e]; exact ⟨_, _, HM'.out⟩, fun k hk => ?_, HM'.out.lt, ?_⟩
    · rcases HF'.out k hk with h | h
      · exact .inl h
      · exact .inr (by omega)
    · exact (Only.of_below (hbm.trans (HB2.out.mono hbm.size))).setCell (.inl ((HM.out.own _).2 (.inl rfl))) _

theorem order_more {n fb : Nat} {w0 : World} {xb ob : Nat} {A X : Option Addr} {c cx : Nat} {W : List (List Nat)} {o : List Nat} (hn : n ≤ 59) (hn1 : 1 ≤ n) (hB : OMem n fb w0 xb ob A X c cx W o) (hlen : W.length = n) (hrows : ∀ i, i < n → Ord (W.getD i []) n) (ho : Ord o n) :
    MoreOk 65 #[.pointer (some ⟨xb, 0, none⟩), .pointer (some ⟨ob, 0, none⟩), .pointer (some ⟨fb, 0, none⟩)] n (fb + 1) (findStep fun y => decide (chooseN W y = o)) (FInv fb w0) :=
  ⟨goes_order1, fun F s w Y cy l hl hi _ _ hY hcy _ => order1_any hn hn1 hB hlen hrows ho F s w Y cy l hl hi hY hcy, fun F s w w' hi hk hs _ => by obtain ⟨A, c, hm⟩ := hi; exact ⟨A, c, hm.stab hk hs⟩⟩

def orderN (W : List (List Nat)) (n : Nat) (o : List Nat) : Option (List Nat) := (ordsN n).find? fun y => decide (chooseN W y = o)

set_option maxHeartbeats 400000 in
theorem Order_no (A X : Option Addr) (n c m cm B B' : Nat) (L : List (List Int)) (l : List Int) (w : World) (hn : L.length = n) (hlen : n ≤ 9223372036854775807) (hrow : ∀ l ∈ L, l.length ≤ 9223372036854775807) (hA : RowsA w B A L) (hm : l.length = m) (hlm : m ≤ 9223372036854775807) (hX : IntsA w B' X l) (hv : validB L = false ∨ validB L = true ∧ ordB l n = false) :
    Calls Try.prog 39 #[.slice A n c, .slice X m cm] w fun e w' => e = .returned (.tuple #[.slice none 0 0, .int .i64 2]) ∧ Below w.heap.size w w' := by
  obtain ⟨w3, hw3⟩ : ∃ w3, w3 = ((w.alloc (.cells #[.slice X m cm] 23)).alloc (.cells #[.slice A n c] 49)) := ⟨_, rfl⟩
  have hb3 : Below w.heap.size w w3 := by subst hw3; exact ((Below.refl _ _).alloc (Nat.le_refl _) _).alloc (by simp) _
  have hsz3 : w3.heap.size = w.heap.size + 2 := by subst hw3; simp
  have hA1 := hA.top.below hb3
  have HV := hide (valid_any A n c _ L w3 hn hlen hrow hA1)
  have hX1 := (hX.top.below hb3).top
  have b1 : w3.heap[w.heap.size]? = some (.cells #[.slice X m cm] 23 (0, 0)) := by subst hw3; exact alloc_old _ _ _ (by simp) (alloc_new _ _ _ rfl)
  have HB1 := hide b1
  have HB3 := hide hb3
  have HS := hide hsz3
  have HW := hide hw3
  rw [hw3] at HV
  clear b1 hw3 hb3 hsz3 hA1 hrow
  rcases hv with hv | ⟨hv, ho⟩
  · rw [hv] at HV
    clear hv hn hA hX hX1
    go_enter Try.func39, Try.ntmps39
    go_wp2_with (go_at_call 48; refine (HV.out).mono ?_; rintro e w1 ⟨rfl, hb1⟩)
    go_ret2
    rw [← HW.out] at hb1
    exact ⟨rfl, HB3.out.trans (hb1.mono HB3.out.size)⟩
  · have h60 : n ≤ 60 := by have := (validB_iff.1 hv).1.2; omega
    rw [hv] at HV
    have HM := hide hm
    have HO := hide ho
    clear hv hn hm ho hA hX
    go_enter Try.func39, Try.ntmps39
    go_wp2_with (first
      | (go_at_call 48; refine (HV.out).mono ?_; rintro e w1 ⟨rfl, hb1⟩; rw [← HW.out] at hb1; have hs := HS.out; have HI := hide (isOrder_any X m cm w1.heap.size n l w1 HM.out hlm h60 (hX1.next hb1)); rw [HO.out] at HI; have q1 := blk_cell ((hb1.block _ (by omega)).trans HB1.out) 0; simp only [List.getElem?_toArray, List.getElem?_cons_zero] at q1)
      | (go_at_call 59; refine (HI.out).mono ?_; rintro e w2 ⟨rfl, rfl⟩))
    go_ret2
    exact ⟨rfl, HB3.out.trans (hb1.mono HB3.out.size)⟩

set_option maxHeartbeats 800000 in
theorem Order_yes (A X : Option Addr) (n c cm B B' : Nat) (L : List (List Int)) (l : List Int) (w : World) (hn : L.length = n) (hA : RowsA w B A L) (hX : IntsA w B' X l) (hv : validB L = true) (ho : ordB l n = true) :
    Calls Try.prog 39 #[.slice A n c, .slice X n cm] w (FindRes (orderN (toNN L) n (toN l)) w) := by
  obtain ⟨h5, hrow⟩ := rows_short hv
  obtain ⟨hu, hok⟩ := valid_ok hv
  obtain ⟨hul, hol⟩ := ord_of ho
  have hm : l.length = n := by rw [← hul, up_length]; exact hol.len
  rw [hn] at hok h5
  have hpos := hok.pos
  have hq := fun (w : World) (a : Option Addr) (n c n' c' : Nat) => Lib.run_eql_slice_nil (P := Try.prog) w 23 _ a n c n' c' Try.underlying23
  obtain ⟨w3, hw3⟩ : ∃ w3, w3 = ((w.alloc (.cells #[.slice X n cm] 23)).alloc (.cells #[.slice A n c] 49)) := ⟨_, rfl⟩
  have hb3 : Below w.heap.size w w3 := by subst hw3; exact ((Below.refl _ _).alloc (Nat.le_refl _) _).alloc (by simp) _
  have hsz3 : w3.heap.size = w.heap.size + 2 := by subst hw3; simp
  have hA1 := hA.top.below hb3
  have HV := hide (valid_any A n c _ L w3 hn (by omega) hrow hA1)
  rw [hv] at HV
  have HX1 := hide (hX.top.below hb3)
  have HA1 := hide hA1
  have b1 : w3.heap[w.heap.size]? = some (.cells #[.slice X n cm] 23 (0, 0)) := by subst hw3; exact alloc_old _ _ _ (by simp) (alloc_new _ _ _ rfl)
  have b2 : w3.heap[w.heap.size + 1]? = some (.cells #[.slice A n c] 49 (0, 0)) := by subst hw3; exact alloc_new _ _ _ (by simp)
  have HB1 := hide b1
  have HB2 := hide b2
  have HB3 := hide hb3
  have HS := hide hsz3
  have HW := hide hw3
  have HU := hide hu
  have HUL := hide hul
  have HOK := hide hok
  have HOL := hide hol
  have HM := hide hm
  have HO := hide ho
  rw [hw3] at HV
  obtain ⟨W, hWW⟩ : ∃ W, W = toNN L := ⟨_, rfl⟩
  obtain ⟨o, hoo⟩ : ∃ o, o = toN l := ⟨_, rfl⟩
  rw [← hWW] at HU HOK ⊢
  rw [← hoo] at HUL HOL ⊢
  obtain ⟨r, hr⟩ : ∃ r, r = orderN W n o := ⟨_, rfl⟩
  rw [← hr]
  have HR := hide hr
  clear b1 b2 hw3 hb3 hsz3 hA1 hrow hv hn hA hX hu hok hul hol hm ho hWW hoo hr
  cases r with
  | none =>
    go_enter Try.func39, Try.ntmps39
    go_wp2_with (first
      | (go_at_call 48; refine (HV.out).mono ?_; rintro e w1 ⟨rfl, hb1⟩; rw [← HW.out] at hb1; have hs := HS.out; have hsz1 := hb1.size; have HI := hide (isOrder_any X n cm w1.heap.size n l w1 HM.out (by omega) (by omega) ((HX1.out.top).next hb1)); rw [HO.out] at HI; have HQ1 := hide ((hb1.block _ (by omega)).trans HB1.out); have HQ2 := hide ((hb1.block _ (by omega)).trans HB2.out); have q1 := blk_cell HQ1.out 0; have q2 := blk_cell HQ2.out 0; simp only [List.getElem?_toArray, List.getElem?_cons_zero] at q1 q2)
      | (go_at_call 59; refine (HI.out).mono ?_; rintro e w2 ⟨rfl, rfl⟩)
      | (go_at_call 62; refine (find_orders (by omega) (order_more (by omega) hpos (W := W) (o := o) (A := A) (X := X) (c := c) (cx := cm) ⟨alloc_old _ _ _ (by omega) HQ2.out, alloc_old _ _ _ (by omega) HQ1.out, by omega, by rw [HU.out]; exact ((HA1.out.top).next hb1).keep fun p hp => World.cell?_alloc_lt _ _ _ hp, by rw [HUL.out]; exact ((HX1.out.top).next hb1).keep fun p hp => World.cell?_alloc_lt _ _ _ hp⟩ HOK.out.len HOK.out.rows HOL.out)).mono ?_; rintro e w4 ⟨rfl, ⟨A4, c4, F4, hm4⟩, hb4⟩; rw [show (ordsN n).find? (fun y => decide (chooseN W y = o)) = _ from HR.out.symm] at hm4; have q4 := blk_cell hm4.box 0; simp only [List.getElem?_toArray, List.getElem?_cons_zero] at q4; have HM4 := hide hm4; clear hm4; first | obtain ⟨rfl, rfl⟩ := HM4.out.no rfl | obtain ⟨b, o', rfl, hb⟩ := HM4.out.addr rfl))
    go_ret2
    exact ⟨none, 0, rfl, IntsA.nil_, HB3.out.trans ((hb1.trans (hb4.mono hsz1)).mono HB3.out.size)⟩
  | some l0 =>
    go_enter Try.func39, Try.ntmps39
    go_wp2_with (first
      | (go_at_call 48; refine (HV.out).mono ?_; rintro e w1 ⟨rfl, hb1⟩; rw [← HW.out] at hb1; have hs := HS.out; have hsz1 := hb1.size; have HI := hide (isOrder_any X n cm w1.heap.size n l w1 HM.out (by omega) (by omega) ((HX1.out.top).next hb1)); rw [HO.out] at HI; have HQ1 := hide ((hb1.block _ (by omega)).trans HB1.out); have HQ2 := hide ((hb1.block _ (by omega)).trans HB2.out); have q1 := blk_cell HQ1.out 0; have q2 := blk_cell HQ2.out 0; simp only [List.getElem?_toArray, List.getElem?_cons_zero] at q1 q2)
      | (go_at_call 59; refine (HI.out).mono ?_; rintro e w2 ⟨rfl, rfl⟩)
      | (go_at_call 62; refine (find_orders (by omega) (order_more (by omega) hpos (W := W) (o := o) (A := A) (X := X) (c := c) (cx := cm) ⟨alloc_old _ _ _ (by omega) HQ2.out, alloc_old _ _ _ (by omega) HQ1.out, by omega, by rw [HU.out]; exact ((HA1.out.top).next hb1).keep fun p hp => World.cell?_alloc_lt _ _ _ hp, by rw [HUL.out]; exact ((HX1.out.top).next hb1).keep fun p hp => World.cell?_alloc_lt _ _ _ hp⟩ HOK.out.len HOK.out.rows HOL.out)).mono ?_; rintro e w4 ⟨rfl, ⟨A4, c4, F4, hm4⟩, hb4⟩; rw [show (ordsN n).find? (fun y => decide (chooseN W y = o)) = _ from HR.out.symm] at hm4; have q4 := blk_cell hm4.box 0; simp only [List.getElem?_toArray, List.getElem?_cons_zero] at q4; have HM4 := hide hm4; clear hm4; first | obtain ⟨rfl, rfl⟩ := HM4.out.no rfl | obtain ⟨b, o', rfl, hb⟩ := HM4.out.addr rfl))
    go_ret2
    exact ⟨_, _, rfl, (HM4.out.yes l0 rfl).2.2, HB3.out.trans ((hb1.trans (hb4.mono hsz1)).mono HB3.out.size)⟩
end Go.Proofs.Ytilnbiaabhdfgaa
