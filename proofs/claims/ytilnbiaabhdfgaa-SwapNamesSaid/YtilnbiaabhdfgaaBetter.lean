/-
  swap.Better.
-/
import Derived.Test.YtilnbiaabhdfgaaFind
namespace Go.Proofs.Ytilnbiaabhdfgaa
open Go.RowKit
set_option linter.unusedVariables false
set_option linter.unusedSimpArgs false

theorem better_more {n fb : Nat} {w0 : World} {xb wb ob : Nat} {A X : Option Addr} {c cx : Nat} {W : List (List Nat)} {o : List Nat} (hn : n ≤ 59) (hn1 : 1 ≤ n) (hB : BMem n fb w0 xb wb ob A X c cx W o) (hlen : W.length = n) (hrows : ∀ i, i < n → Ord (W.getD i []) n) (ho : Ord o n) :
    MoreOk 63 #[.pointer (some ⟨xb, 0, none⟩), .pointer (some ⟨wb, 0, none⟩), .pointer (some ⟨ob, 0, none⟩), .pointer (some ⟨fb, 0, none⟩)] n (fb + 1) (findStep fun y => impr W n (2 ^ n - 1) y o) (FInv fb w0) :=
  ⟨goes_better1, fun F s w Y cy l hl hi _ _ hY hcy _ => better1_any hn hn1 hB hlen hrows ho F s w Y cy l hl hi hY hcy, fun F s w w' hi hk hs _ => by obtain ⟨A, c, hm⟩ := hi; exact ⟨A, c, hm.stab hk hs⟩⟩

/-- The variable for what is found, and the walk through the orders: what is found in the end lies in it. -/
theorem find_orders {fid : FuncId} {cap : Array Value} {n : Nat} {w1 : World} {p : List Nat → Bool} (hn : n ≤ 60)
    (hmore : MoreOk fid cap n (w1.heap.size + 1) (findStep p) (FInv w1.heap.size (w1.alloc (.cells #[.slice none 0 0] 23)))) :
    Calls Try.prog 62 #[.int .i64 n, .func (.func fid) #[] cap] (w1.alloc (.cells #[.slice none 0 0] 23)) fun e w' => e = .returned (.tuple #[]) ∧ (∃ A c F', FMem w1.heap.size (w1.alloc (.cells #[.slice none 0 0] 23)) A c F' ((ordsN n).find? p) w') ∧ Below w1.heap.size w1 w' := by
  have e : (w1.alloc (.cells #[.slice none 0 0] 23)).heap.size = w1.heap.size + 1 := by simp
  have h0 : FMem w1.heap.size (w1.alloc (.cells #[.slice none 0 0] 23)) none 0 (fun k => k = w1.heap.size) none (w1.alloc (.cells #[.slice none 0 0] 23)) :=
    ⟨alloc_new _ _ _ rfl, fun _ => ⟨rfl, rfl⟩, (fun l e => nomatch e), fun k => ⟨fun h => .inl h, fun h => by
      rcases h with h | ⟨o, h⟩
      · exact h
      · cases h⟩, fun _ _ => rfl⟩
  rw [← e] at hmore
  refine (orders_any hmore hn none (fun k => k = w1.heap.size) ⟨_, _, h0⟩ (fun q hq => by simp; omega)).mono ?_
  rintro e w' ⟨F', rfl, h1, h2, h3, h4⟩
  rw [runL_find] at h1
  obtain ⟨A, c, hm⟩ := h1
  exact ⟨rfl, ⟨A, c, F', hm⟩, ((Below.refl _ _).alloc (Nat.le_refl _) _).trans (h4.below (by simp) (fun k hk => by omega))⟩

/-- What is found comes back with OK, or nothing with ErrNone. -/
def FindRes (r : Option (List Nat)) (w : World) (e : Ending) (w' : World) : Prop :=
  ∃ O c, e = .returned (.tuple #[.slice O (lenO r) c, .int .i64 (if r.isSome then 0 else 4)]) ∧ IntsA w' w'.heap.size O (up (r.getD [])) ∧ Below w.heap.size w w'

def betterN (W : List (List Nat)) (n : Nat) (o : List Nat) : Option (List Nat) := (ordsN n).find? fun y => impr W n (2 ^ n - 1) y o

set_option maxHeartbeats 400000 in
theorem Better_no (A X : Option Addr) (n c m cm B B' : Nat) (L : List (List Int)) (l : List Int) (w : World) (hn : L.length = n) (hlen : n ≤ 9223372036854775807) (hrow : ∀ l ∈ L, l.length ≤ 9223372036854775807) (hA : RowsA w B A L) (hm : l.length = m) (hlm : m ≤ 9223372036854775807) (hX : IntsA w B' X l) (hv : validB L = false ∨ validB L = true ∧ ordB l n = false) :
    Calls Try.prog 38 #[.slice A n c, .slice X m cm] w fun e w' => e = .returned (.tuple #[.slice none 0 0, .int .i64 2]) ∧ Below w.heap.size w w' := by
  obtain ⟨w3, hw3⟩ : ∃ w3, w3 = (((w.alloc (.cells #[.slice A n c] 22)).alloc (.cells #[.slice X m cm] 23)).alloc (.cells #[.slice A n c] 49)) := ⟨_, rfl⟩
  have hb3 : Below w.heap.size w w3 := by subst hw3; exact (((Below.refl _ _).alloc (Nat.le_refl _) _).alloc (by simp) _).alloc (by simp <;> omega) _
  have hsz3 : w3.heap.size = w.heap.size + 3 := by subst hw3; simp
  have hA1 := hA.top.below hb3
  have HV := hide (valid_any A n c _ L w3 hn hlen hrow hA1)
  have hX1 := (hX.top.below hb3).top
  have b0 : w3.heap[w.heap.size]? = some (.cells #[.slice A n c] 22 (0, 0)) := by subst hw3; exact alloc_old _ _ _ (by simp <;> omega) (alloc_old _ _ _ (by simp) (alloc_new _ _ _ rfl))
  have b1 : w3.heap[w.heap.size + 1]? = some (.cells #[.slice X m cm] 23 (0, 0)) := by subst hw3; exact alloc_old _ _ _ (by simp) (alloc_new _ _ _ (by simp))
  have HB0 := hide b0
  have HB1 := hide b1
  have HB3 := hide hb3
  have HS := hide hsz3
  have HW := hide hw3
  rw [hw3] at HV
  clear b0 b1 hw3 hb3 hsz3 hA1 hrow
  rcases hv with hv | ⟨hv, ho⟩
  · rw [hv] at HV
    clear hv hn hA hX hX1
    go_enter Try.func38, Try.ntmps38
    go_wp2_with (go_at_call 48; refine (HV.out).mono ?_; rintro e w1 ⟨rfl, hb1⟩)
    go_ret2
    rw [← HW.out] at hb1
    exact ⟨rfl, HB3.out.trans (hb1.mono HB3.out.size)⟩
  · have h60 : n ≤ 60 := by have := (validB_iff.1 hv).1.2; omega
    rw [hv] at HV
    have HM := hide hm
    have HO := hide ho
    clear hv hn hm ho hA hX
    go_enter Try.func38, Try.ntmps38
    go_wp2_with (first
      | (go_at_call 48; refine (HV.out).mono ?_; rintro e w1 ⟨rfl, hb1⟩; rw [← HW.out] at hb1; have hs := HS.out; have HI := hide (isOrder_any X m cm w1.heap.size n l w1 HM.out hlm h60 (hX1.next hb1)); rw [HO.out] at HI; have q0 := blk_cell ((hb1.block _ (by omega)).trans HB0.out) 0; have q1 := blk_cell ((hb1.block _ (by omega)).trans HB1.out) 0; simp only [List.getElem?_toArray, List.getElem?_cons_zero] at q0 q1)
      | (go_at_call 59; refine (HI.out).mono ?_; rintro e w2 ⟨rfl, rfl⟩))
    go_ret2
    exact ⟨rfl, HB3.out.trans (hb1.mono HB3.out.size)⟩

set_option maxHeartbeats 800000 in
theorem Better_yes (A X : Option Addr) (n c cm B B' : Nat) (L : List (List Int)) (l : List Int) (w : World) (hn : L.length = n) (hA : RowsA w B A L) (hX : IntsA w B' X l) (hv : validB L = true) (ho : ordB l n = true) :
    Calls Try.prog 38 #[.slice A n c, .slice X n cm] w (FindRes (betterN (toNN L) n (toN l)) w) := by
  obtain ⟨h5, hrow⟩ := rows_short hv
  obtain ⟨hu, hok⟩ := valid_ok hv
  obtain ⟨hul, hol⟩ := ord_of ho
  have hm : l.length = n := by rw [← hul, up_length]; exact hol.len
  rw [hn] at hok h5
  have hpos := hok.pos
  have hq := fun (w : World) (a : Option Addr) (n c n' c' : Nat) => Lib.run_eql_slice_nil (P := Try.prog) w 23 _ a n c n' c' Try.underlying23
  obtain ⟨w3, hw3⟩ : ∃ w3, w3 = (((w.alloc (.cells #[.slice A n c] 22)).alloc (.cells #[.slice X n cm] 23)).alloc (.cells #[.slice A n c] 49)) := ⟨_, rfl⟩
  have hb3 : Below w.heap.size w w3 := by subst hw3; exact (((Below.refl _ _).alloc (Nat.le_refl _) _).alloc (by simp) _).alloc (by simp <;> omega) _
  have hsz3 : w3.heap.size = w.heap.size + 3 := by subst hw3; simp
  have hA1 := hA.top.below hb3
  have HV := hide (valid_any A n c _ L w3 hn (by omega) hrow hA1)
  rw [hv] at HV
  have HX1 := hide (hX.top.below hb3)
  have HA1 := hide hA1
  have b0 : w3.heap[w.heap.size]? = some (.cells #[.slice A n c] 22 (0, 0)) := by subst hw3; exact alloc_old _ _ _ (by simp <;> omega) (alloc_old _ _ _ (by simp) (alloc_new _ _ _ rfl))
  have b1 : w3.heap[w.heap.size + 1]? = some (.cells #[.slice X n cm] 23 (0, 0)) := by subst hw3; exact alloc_old _ _ _ (by simp) (alloc_new _ _ _ (by simp))
  have b2 : w3.heap[w.heap.size + 2]? = some (.cells #[.slice A n c] 49 (0, 0)) := by subst hw3; exact alloc_new _ _ _ (by simp)
  have HB0 := hide b0
  have HB1 := hide b1
  have HB2 := hide b2
  have HB3 := hide hb3
  have HS := hide hsz3
  have HW := hide hw3
  have HU := hide hu
  have HUL := hide hul
  have HOK := hide hok
  have HOL := hide hol
  have HM := hide hm
  have HO := hide ho
  rw [hw3] at HV
  obtain ⟨W, hWW⟩ : ∃ W, W = toNN L := ⟨_, rfl⟩
  obtain ⟨o, hoo⟩ : ∃ o, o = toN l := ⟨_, rfl⟩
  rw [← hWW] at HU HOK ⊢
  rw [← hoo] at HUL HOL ⊢
  obtain ⟨r, hr⟩ : ∃ r, r = betterN W n o := ⟨_, rfl⟩
  rw [← hr]
  have HR := hide hr
  clear b0 b1 b2 hw3 hb3 hsz3 hA1 hrow hv hn hA hX hu hok hul hol hm ho hWW hoo hr
  cases r with
  | none =>
    go_enter Try.func38, Try.ntmps38
    go_wp2_with (first
      | (go_at_call 48; refine (HV.out).mono ?_; rintro e w1 ⟨rfl, hb1⟩; rw [← HW.out] at hb1; have hs := HS.out; have hsz1 := hb1.size; have HI := hide (isOrder_any X n cm w1.heap.size n l w1 HM.out (by omega) (by omega) ((HX1.out.top).next hb1)); rw [HO.out] at HI; have HQ0 := hide ((hb1.block _ (by omega)).trans HB0.out); have HQ1 := hide ((hb1.block _ (by omega)).trans HB1.out); have HQ2 := hide ((hb1.block _ (by omega)).trans HB2.out); have q0 := blk_cell HQ0.out 0; have q1 := blk_cell HQ1.out 0; have q2 := blk_cell HQ2.out 0; simp only [List.getElem?_toArray, List.getElem?_cons_zero] at q0 q1 q2; have qa : ∀ o, (w1.alloc o).cell? ⟨w.heap.size, 0, none⟩ = some (.slice A n c) := (fun o => (World.cell?_alloc_lt _ _ _ (by show w.heap.size < _; omega)).trans q0))
      | (go_at_call 59; refine (HI.out).mono ?_; rintro e w2 ⟨rfl, rfl⟩)
      | (go_at_call 62; refine (find_orders (by omega) (better_more (by omega) hpos (W := W) (o := o) (A := A) (X := X) (c := c) (cx := cm) ⟨alloc_old _ _ _ (by omega) HQ2.out, alloc_old _ _ _ (by omega) HQ0.out, alloc_old _ _ _ (by omega) HQ1.out, by omega, by rw [HU.out]; exact ((HA1.out.top).next hb1).keep fun p hp => World.cell?_alloc_lt _ _ _ hp, by rw [HUL.out]; exact ((HX1.out.top).next hb1).keep fun p hp => World.cell?_alloc_lt _ _ _ hp⟩ HOK.out.len HOK.out.rows HOL.out)).mono ?_; rintro e w4 ⟨rfl, ⟨A4, c4, F4, hm4⟩, hb4⟩; rw [show (ordsN n).find? (fun y => impr W n (2 ^ n - 1) y o) = _ from HR.out.symm] at hm4; have q4 := blk_cell hm4.box 0; simp only [List.getElem?_toArray, List.getElem?_cons_zero] at q4; have HM4 := hide hm4; clear hm4; first | obtain ⟨rfl, rfl⟩ := HM4.out.no rfl | obtain ⟨b, o', rfl, hb⟩ := HM4.out.addr rfl))
    go_ret2
    exact ⟨none, 0, rfl, IntsA.nil_, HB3.out.trans ((hb1.trans (hb4.mono hsz1)).mono HB3.out.size)⟩
  | some l0 =>
    go_enter Try.func38, Try.ntmps38
    go_wp2_with (first
      | (go_at_call 48; refine (HV.out).mono ?_; rintro e w1 ⟨rfl, hb1⟩; rw [← HW.out] at hb1; have hs := HS.out; have hsz1 := hb1.size; have HI := hide (isOrder_any X n cm w1.heap.size n l w1 HM.out (by omega) (by omega) ((HX1.out.top).next hb1)); rw [HO.out] at HI; have HQ0 := hide ((hb1.block _ (by omega)).trans HB0.out); have HQ1 := hide ((hb1.block _ (by omega)).trans HB1.out); have HQ2 := hide ((hb1.block _ (by omega)).trans HB2.out); have q0 := blk_cell HQ0.out 0; have q1 := blk_cell HQ1.out 0; have q2 := blk_cell HQ2.out 0; simp only [List.getElem?_toArray, List.getElem?_cons_zero] at q0 q1 q2; have qa : ∀ o, (w1.alloc o).cell? ⟨w.heap.size, 0, none⟩ = some (.slice A n c) := (fun o => (World.cell?_alloc_lt _ _ _ (by show w.heap.size < _; omega)).trans q0))
      | (go_at_call 59; refine (HI.out).mono ?_; rintro e w2 ⟨rfl, rfl⟩)
      | (go_at_call 62; refine (find_orders (by omega) (better_more (by omega) hpos (W := W) (o := o) (A := A) (X := X) (c := c) (cx := cm) ⟨alloc_old _ _ _ (by omega) HQ2.out, alloc_old _ _ _ (by omega) HQ0.out, alloc_old _ _ _ (by omega) HQ1.out, by omega, by rw [HU.out]; exact ((HA1.out.top).next hb1).keep fun p hp => World.cell?_alloc_lt _ _ _ hp, by rw [HUL.out]; exact ((HX1.out.top).next hb1).keep fun p hp => World.cell?_alloc_lt _ _ _ hp⟩ HOK.out.len HOK.out.rows HOL.out)).mono ?_; rintro e w4 ⟨rfl, ⟨A4, c4, F4, hm4⟩, hb4⟩; rw [show (ordsN n).find? (fun y => impr W n (2 ^ n - 1) y o) = _ from HR.out.symm] at hm4; have q4 := blk_cell hm4.box 0; simp only [List.getElem?_toArray, List.getElem?_cons_zero] at q4; have HM4 := hide hm4; clear hm4; first | obtain ⟨rfl, rfl⟩ := HM4.out.no rfl | obtain ⟨b, o', rfl, hb⟩ := HM4.out.addr rfl))
    go_ret2
    exact ⟨_, _, rfl, (HM4.out.yes l0 rfl).2.2, HB3.out.trans ((hb1.trans (hb4.mono hsz1)).mono HB3.out.size)⟩
end Go.Proofs.Ytilnbiaabhdfgaa
