/-
  The reference's better, Better and Order.
-/
import Derived.Test.YtilnbiaabhdfgaaRefOrders
import Derived.Test.YtilnbiaabhdfgaaRefChoose
import Derived.Test.YtilnbiaabhdfgaaOrder
import Derived.Test.YtilnbiaabhdfgaaTally
import Derived.Test.YtilnbiaabhdfgaaParetoPlain
namespace Go.Proofs.Ytilnbiaabhdfgaa
open Go.RowKit
set_option linter.unusedVariables false
set_option linter.unusedSimpArgs false

theorem rrank_any (A : Option Addr) (n c B g : Nat) (l : List Nat) (w : World) (hl : Ord l n) (h5 : n ≤ 60) (hA : IntsA w B A (up l)) (hg : g < n) :
    Calls Try.prog 61 #[.slice A n c, .int .i64 g] w fun e w' => e = .returned (.int .i64 (place l g)) ∧ w = w' := by
  have hid : idx (up l) (g : Int) = (place l g : Int) := idx_up_mem ((hl.mem g).2 hg)
  have h := rank_any A n c B (up l) (g : Int) w (by rw [up_length, hl.len]) (by omega) hA
  rw [hid] at h
  exact h

set_option maxRecDepth 100000 in
set_option maxHeartbeats 1600000 in
theorem rbetter_any (A X Y : Option Addr) (n c cx cy B B1 B2 : Nat) (W : List (List Nat)) (now was : List Nat) (w : World) (hW : WOk W n)
    (hA : RowsA w B A (upp W)) (ho : Ord now n) (ho' : Ord was n) (hX : IntsA w B1 X (up now)) (hY : IntsA w B2 Y (up was)) :
    Calls Try.prog 66 #[.slice A n c, .slice X n cx, .slice Y n cy] w fun e w' => e = .returned (.bool (impr W n (2 ^ n - 1) now was)) ∧ Below w.heap.size w w' := by
  obtain ⟨M, hM⟩ : ∃ M, M = 2 ^ n - 1 := ⟨_, rfl⟩
  rw [← hM]
  have HMB : Hid (∀ i, i < n → M.testBit i = true) := fun i hi => by rw [hM, full_bit]; simp [hi]
  obtain ⟨res, hres⟩ : ∃ res, impr W n M now was = res := ⟨_, rfl⟩
  rw [hres]
  have h5 := hW.le
  have HRES := hide hres
  have HW := hide hW
  have HO := hide ho
  have HO' := hide ho'
  clear hres hW ho ho' hM
  go_enter Try.func66, Try.ntmps66
  go_wp2
  go_loopw [7, 13] (fun b i wr => ∃ (k : Nat) (y : Bool), k ≤ n ∧ i = .int .i64 k ∧ b = .bool y ∧ Below w.heap.size w wr ∧ Hid (someMore W M now was k = y) ∧ Hid (noLess W M now was k = true)) (fun _ i _ => n - (intOf i).toNat)
  case atStart => exact ⟨0, false, Nat.zero_le _, rfl, rfl, Below.refl _ _, rfl, rfl⟩
  case round =>
    obtain ⟨k, y, hk, rfl, rfl, hbel, hy, hno⟩ := hrel
    have hA1 := hA.top
    have hX1 := hX.top
    have hY1 := hY.top
    by_cases hlt : k < n
    · obtain ⟨b1, o1, x1, rfl, hb1, hc1, hx1⟩ := (hX1.below hbel).at_ (k := k) (by rw [up_length, HO.out.len]; exact hlt)
      obtain ⟨b2, o2, x2, rfl, hb2, hc2, hx2⟩ := (hY1.below hbel).at_ (k := k) (by rw [up_length, HO'.out.len]; exact hlt)
      obtain ⟨b3, o3, A', n', c', rfl, hb3, hc3, hx3, hle3, hI3⟩ := (hA1.below hbel).at_ (k := k) (by rw [upp_length, HW.out.len]; exact hlt)
      rw [upp_getD] at hI3 hx3
      have hlk := HW.out.rows k hlt
      obtain rfl : n = n' := by have := hx3.out; rw [up_length, hlk.len] at this; exact this
      have e1 := hx1.out
      have e2 := hx2.out
      rw [up_getD] at e1 e2
      have h1 := HO.out.getD_lt hlt
      have h2 := HO'.out.getD_lt hlt
      have HB := hide (HMB.out k hlt)
      have HNS := hide (someMore_succ W M now was k)
      have HNL := hide (noLess_succ W M now was k)
      generalize now.getD k 0 = g1 at *
      generalize was.getD k 0 = g2 at *
      subst e1; subst e2
      have HC1 : Hid (∀ m', Calls Try.prog 61 #[.slice A' n c', .int .i64 g1] (wr.drewN m') fun e w' => e = .returned (.int .i64 (place (W.getD k []) g1)) ∧ ∃ q, w' = wr.drewN q) := fun m' =>
        (rrank_any A' n c' _ g1 _ (wr.drewN m') hlk (by omega) (hI3.keep (fun _ _ => rfl)) h1).mono fun e w' h => ⟨h.1, m', h.2.symm⟩
      have HC2 : Hid (∀ m', Calls Try.prog 61 #[.slice A' n c', .int .i64 g2] (wr.drewN m') fun e w' => e = .returned (.int .i64 (place (W.getD k []) g2)) ∧ ∃ q, w' = wr.drewN q) := fun m' =>
        (rrank_any A' n c' _ g2 _ (wr.drewN m') hlk (by omega) (hI3.keep (fun _ _ => rfl)) h2).mono fun e w' h => ⟨h.1, m', h.2.symm⟩
      generalize place (W.getD k []) g1 = p1 at *
      generalize place (W.getD k []) g2 = p2 at *
      clear hx1 hx2 hx3 h1 h2 hlk hI3
      by_cases hgt : p2 < p1
      · have hgt' : decide ((p2 : Int) < (p1 : Int)) = true := decide_eq_true (by omega)
        go_wp2
        go_quiet ((first | (with_reducible exact HC1.out _) | (with_reducible exact HC2.out _)))
        go_wp2
        go_ret
        refine ⟨?_, below_drewN hbel _⟩
        have : noLess W M now was n = false := noLess_false (k := k + 1) (by rw [HNL.out, HB.out]; simp; intro; omega) (by omega)
        rw [← HRES.out, impr, this]; rfl
      · have hgt' : decide ((p2 : Int) < (p1 : Int)) = false := decide_eq_false (by omega)
        have hlt' : decide ((p1 : Int) < (p2 : Int)) = decide (p1 < p2) := by rw [Bool.eq_iff_iff]; simp
        cases y
        · go_wp2
          go_quiet ((first | (with_reducible exact HC1.out _) | (with_reducible exact HC2.out _)))
          go_wp2
          go_roundw
          case rel => exact ⟨k + 1, decide (p1 < p2), by omega, by go_num, by first | rfl | rw [hlt'], below_drewN hbel _, by show _ = _; rw [HNS.out, HB.out, hy.out]; simp, by show _ = _; rw [HNL.out, HB.out, hno.out]; simp; omega⟩
          case measure => simp [intOf] <;> omega
        · go_wp2
          go_quiet ((first | (with_reducible exact HC1.out _) | (with_reducible exact HC2.out _)))
          go_wp2
          go_roundw
          case rel => exact ⟨k + 1, true, by omega, by go_num, rfl, below_drewN hbel _, by show _ = _; rw [HNS.out, HB.out, hy.out]; simp, by show _ = _; rw [HNL.out, HB.out, hno.out]; simp; omega⟩
          case measure => simp [intOf] <;> omega
    · obtain rfl : n = k := by omega
      go_wp2
      go_ret
      refine ⟨?_, hbel⟩
      rw [← HRES.out, impr, hno.out, hy.out]; rfl

/-- What Orders returns reads as the orders. -/
theorem rowsNew_rows {L : List (List Nat)} {A : Option Addr} {w : World} {e : Ending} {w' : World} (h : RowsNew L A w e w') : ∃ X c, e = .returned (.slice X L.length c) ∧ L.length ≤ c ∧ RowsA w' w'.heap.size X (upp L) ∧ Below w.heap.size w w' := by
  obtain ⟨X, c, vs, h1, h2, h3, h4, h5, h6, h7, h8⟩ := h
  exact ⟨X, c, h1, h2, rows_vals h5 h4, h7⟩
theorem find_at {L : List (List Nat)} {p : List Nat → Bool} {j : Nat} (hj : j < L.length) (hp : p (L.getD j []) = true) (hno : ∀ i, i < j → p (L.getD i []) = false) : L.find? p = some (L.getD j []) := by
  rw [List.find?_eq_some_iff_getElem]
  refine ⟨hp, j, hj, by simp [List.getD_eq_getElem?_getD, hj], fun i hi => ?_⟩
  have := hno i hi
  rw [List.getD_eq_getElem?_getD, List.getElem?_eq_getElem (by omega)] at this
  simpa using this
theorem find_not {L : List (List Nat)} {p : List Nat → Bool} (hno : ∀ i, i < L.length → p (L.getD i []) = false) : L.find? p = none := by
  rw [List.find?_eq_none]
  intro x hx
  obtain ⟨i, hi, rfl⟩ := List.getElem_of_mem hx
  have := hno i hi
  rw [List.getD_eq_getElem?_getD, List.getElem?_eq_getElem hi] at this
  simpa using this

set_option maxRecDepth 100000 in
set_option maxHeartbeats 1600000 in
theorem refBetter_any (A X : Option Addr) (n c cx : Nat) (W : List (List Nat)) (o : List Nat) (w : World) (hW : WOk W n) (hA : RowsA w w.heap.size A (upp W)) (ho : Ord o n) (hX : IntsA w w.heap.size X (up o)) :
    Calls Try.prog 41 #[.slice A n c, .slice X n cx] w (FindRes (betterN W n o) w) := by
  have h5 := hW.le
  have h1 := hW.pos
  have HW := hide hW
  have HO := hide ho
  have HA := hide hA
  have HX := hide hX
  clear hW ho hA hX
  go_enter Try.func41, Try.ntmps41
  go_wp2_with (go_at_call 58; refine (refOrders_any h5 h1 w).mono ?_; intro e w1 hrn; obtain ⟨X2, c2, rfl, hc2, hR, hb1⟩ := rowsNew_rows hrn; have HR := hide hR; clear hrn hR)
  obtain ⟨N, hN⟩ : ∃ N, (ordsN n).length = N := ⟨_, rfl⟩
  have hN120 : N ≤ 120 := by rw [← hN]; exact ords_len n h5
  have HNN := hide hN
  rw [hN] at hc2
  rw [hN]
  clear hN
  go_loopw [12] (fun i wr => ∃ j : Nat, j ≤ N ∧ i = .int .i64 j ∧ Below w1.heap.size w1 wr ∧ Hid (∀ i, i < j → impr W n (2 ^ n - 1) ((ordsN n).getD i []) o = false)) (fun i _ => N - (intOf i).toNat)
  case atStart => exact ⟨0, Nat.zero_le _, rfl, Below.refl _ _, fun i hi => by omega⟩
  case round =>
    obtain ⟨j, hj, rfl, hbel, hno⟩ := hrel
    have hbw := hb1.trans (hbel.mono hb1.size)
    by_cases hlt : j < N
    · have hjl : j < (ordsN n).length := by rw [HNN.out]; exact hlt
      obtain ⟨b, o1, A', n', c', rfl, hb, hc, hx, hle, hI⟩ := (HR.out.below hbel).at_ (k := j) (by rw [upp_length]; exact hjl)
      rw [upp_getD] at hI hx
      obtain ⟨l, hl⟩ : ∃ l, (ordsN n).getD j [] = l := ⟨_, rfl⟩
      have hol : Ord l n := by rw [← hl]; exact mem_ordsN.1 (getD_mem hjl)
      rw [hl] at hI hx
      obtain rfl : n = n' := by have := hx.out; rw [up_length, hol.len] at this; exact this
      have HB := hide (rbetter_any A A' X n c c' cx w.heap.size w1.heap.size w.heap.size W l o wr HW.out (HA.out.below hbw) hol HO.out hI (HX.out.below hbw))
      have HL := hide hl
      have HI := hide hI
      have HOL := hide hol
      cases hr : impr W n (2 ^ n - 1) l o
      · rw [hr] at HB
        have HRR := hide hr
        clear hr hl hx hI hol hjl
        go_wp2_with (go_at_call 66; refine (HB.out).mono ?_; rintro e w2 ⟨rfl, hb2⟩)
        go_roundw
        case rel =>
          refine ⟨j + 1, by omega, by go_num, hbel.trans (hb2.mono hbel.size), fun i hi => ?_⟩
          by_cases e : i = j
          · rw [e, HL.out, HRR.out]
          · exact hno.out i (by omega)
        case measure => simp [intOf] <;> omega
      · rw [hr] at HB
        have hres : betterN W n o = some l := by rw [betterN, ← hl]; exact find_at hjl (by rw [hl]; exact hr) (fun i hi => hno.out i hi)
        have HRR := hide hres
        have HLL := hide hol.len
        clear hr hl hx hol hjl hres hI
        go_wp2_with (go_at_call 66; refine (HB.out).mono ?_; rintro e w2 ⟨rfl, hb2⟩)
        go_ret2
        rw [HRR.out]
        refine ⟨A', c', by simp [lenO, HLL.out], (HI.out.top.below (B := wr.heap.size) hb2).more (by have := hb2.size; omega), hbw.trans (hb2.mono hbw.size)⟩
    · obtain rfl : N = j := by omega
      have hres : betterN W n o = none := find_not (fun i hi => hno.out i (by rw [← HNN.out]; exact hi))
      have HRR := hide hres
      clear hres
      go_wp2
      go_ret2
      rw [HRR.out]
      exact ⟨none, 0, rfl, IntsA.nil_, hbw⟩

theorem takes_eq {a b : List Nat} {n : Nat} (ha : a.length = n) (hb : b.length = n) {y : Bool} (h : ((List.range n).all fun i => a.getD i 0 == b.getD i 0) = y) : decide (b = a) = y := by
  rw [← h, Bool.eq_iff_iff]
  simp only [decide_eq_true_eq, List.all_eq_true, List.mem_range, beq_iff_eq]
  constructor
  · rintro rfl i _; rfl
  · intro h2; exact (ord_ext ha hb h2).symm

set_option maxRecDepth 100000 in
set_option maxHeartbeats 1600000 in
theorem refOrder_any (A X : Option Addr) (n c cx : Nat) (W : List (List Nat)) (o : List Nat) (w : World) (hW : WOk W n) (hA : RowsA w w.heap.size A (upp W)) (ho : Ord o n) (hX : IntsA w w.heap.size X (up o)) :
    Calls Try.prog 42 #[.slice A n c, .slice X n cx] w (FindRes (orderN W n o) w) := by
  have h5 := hW.le
  have h1 := hW.pos
  have HW := hide hW
  have HO := hide ho
  have HA := hide hA
  have HX := hide hX
  clear hW ho hA hX
  go_enter Try.func42, Try.ntmps42
  go_wp2_with (go_at_call 58; refine (refOrders_any h5 h1 w).mono ?_; intro e w1 hrn; obtain ⟨X2, c2, rfl, hc2, hR, hb1⟩ := rowsNew_rows hrn; have HR := hide hR; clear hrn hR)
  obtain ⟨N, hN⟩ : ∃ N, (ordsN n).length = N := ⟨_, rfl⟩
  have hN120 : N ≤ 120 := by rw [← hN]; exact ords_len n h5
  have HNN := hide hN
  rw [hN] at hc2
  rw [hN]
  clear hN
  go_loopw [15] (fun i wr => ∃ j : Nat, j ≤ N ∧ i = .int .i64 j ∧ Below w1.heap.size w1 wr ∧ Hid (∀ i, i < j → decide (chooseN W ((ordsN n).getD i []) = o) = false)) (fun i _ => N - (intOf i).toNat)
  case atStart => exact ⟨0, Nat.zero_le _, rfl, Below.refl _ _, fun i hi => by omega⟩
  case round =>
    obtain ⟨j, hj, rfl, hbel, hno⟩ := hrel
    have hbw := hb1.trans (hbel.mono hb1.size)
    by_cases hlt : j < N
    · have hjl : j < (ordsN n).length := by rw [HNN.out]; exact hlt
      obtain ⟨b, o1, A', n', c', rfl, hb, hc, hx, hle, hI⟩ := (HR.out.below hbel).at_ (k := j) (by rw [upp_length]; exact hjl)
      rw [upp_getD] at hI hx
      obtain ⟨l, hl⟩ : ∃ l, (ordsN n).getD j [] = l := ⟨_, rfl⟩
      have hol : Ord l n := by rw [← hl]; exact mem_ordsN.1 (getD_mem hjl)
      rw [hl] at hI hx
      obtain rfl : n = n' := by have := hx.out; rw [up_length, hol.len] at this; exact this
      have HC := hide (refChoose_any A A' n c c' w.heap.size w1.heap.size W l wr (by omega) HW.out.len HW.out.rows (HA.out.below hbw) hol hI)
      obtain ⟨f, hf⟩ : ∃ f, chooseN W l = f := ⟨_, rfl⟩
      have hfo : Ord f n := by rw [← hf]; exact chooseN_ord HW.out hol
      rw [hf] at HC
      have HF := hide hf
      have HFO := hide hfo
      have HL := hide hl
      have HI := hide hI
      have HOL := hide hol
      clear hf hfo hl hx hI hol hjl
      go_wp2_with (go_at_call 37; refine (HC.out).mono ?_; rintro e w2 ⟨O, co, rfl, hO, hb2, _⟩)
      have hbel2 := hbel.trans (hb2.mono hbel.size)
      have hbw2 := hbw.trans (hb2.mono hbw.size)
      go_loopw [8, 23] (fun s i wi => ∃ (k m : Nat) (y : Bool), k ≤ n ∧ i = .int .i64 k ∧ s = .bool y ∧ wi = w2.drewN m ∧ Hid (((List.range k).all fun i => o.getD i 0 == f.getD i 0) = y)) (fun _ i _ => n - (intOf i).toNat)
      case atStart => exact ⟨0, 0, true, Nat.zero_le _, rfl, rfl, rfl, rfl⟩
      case round =>
        obtain ⟨k, m, y, hk, rfl, rfl, rfl, hy⟩ := hrel
        by_cases hltk : k < n
        · obtain ⟨b1, o1, x1, rfl, hb1', hc1, hx1⟩ := hO.at_ (k := k) (by rw [up_length, HFO.out.len]; exact hltk)
          obtain ⟨b2, o2, x2, rfl, hb2', hc2', hx2⟩ := (HX.out.below hbw2).at_ (k := k) (by rw [up_length, HO.out.len]; exact hltk)
          have e1 := hx1.out
          have e2 := hx2.out
          rw [up_getD] at e1 e2
          have hs : Hid (((List.range (k + 1)).all fun i => o.getD i 0 == f.getD i 0) = (y && (o.getD k 0 == f.getD k 0))) := by
            show _ = _
            rw [List.range_succ, List.all_append, hy.out]; simp
          generalize o.getD k 0 = g2 at *
          generalize f.getD k 0 = g1 at *
          subst e1; subst e2
          have hcmp : ((g2 : Int) == (g1 : Int)) = (g2 == g1) := by rw [Bool.eq_iff_iff]; simp; omega
          clear hx1 hx2 hc
          cases y
          · go_wp2
            try (go_quiet (fail))
            go_wp2
            go_roundw
            case rel => exact ⟨k + 1, _, false, by omega, by go_num, rfl, (by first | rfl | exact World.drewN_drewN _ _ _), by show _ = _; rw [hs.out]; rfl⟩
            case measure => simp [intOf] <;> omega
          · go_wp2
            try (go_quiet (fail))
            go_wp2
            go_roundw
            case rel => exact ⟨k + 1, _, (g2 == g1), by omega, by go_num, by first | rfl | rw [hcmp], (by first | rfl | exact World.drewN_drewN _ _ _), by show _ = _; rw [hs.out]; rfl⟩
            case measure => simp [intOf] <;> omega
        · obtain rfl : n = k := by omega
          have hdec : Hid (decide (chooseN W l = o) = y) := by show _ = _; rw [HF.out]; exact takes_eq HO.out.len HFO.out.len hy.out
          have hbm : Below w1.heap.size w1 (w2.drewN m) := below_drewN hbel2 m
          have hbwm : Below w.heap.size w (w2.drewN m) := below_drewN hbw2 m
          cases y
          · go_wp2
            go_roundw
            case rel =>
              refine ⟨j + 1, by omega, by go_num, hbm, fun i hi => ?_⟩
              by_cases e : i = j
              · rw [e, HL.out, hdec.out]
              · exact hno.out i (by omega)
            case measure => simp [intOf] <;> omega
          · have hjl : j < (ordsN n).length := by rw [HNN.out]; exact hlt
            have hres : orderN W n o = some l := by rw [orderN, ← HL.out]; exact find_at hjl (by rw [HL.out]; exact hdec.out) (fun i hi => hno.out i hi)
            have HRR := hide hres
            clear hres hjl
            go_wp2
            go_ret2
            rw [HRR.out]
            refine ⟨A', c', by simp [lenO, HOL.out.len], ?_, hbwm⟩
            have h7 := HI.out.top.below (B := wr.heap.size) hb2
            exact (h7.keep (w' := w2.drewN m) fun _ _ => rfl).more (by have := hb2.size; simpa using this)
    · obtain rfl : N = j := by omega
      have hres : orderN W n o = none := find_not (fun i hi => hno.out i (by rw [← HNN.out]; exact hi))
      have HRR := hide hres
      clear hres
      go_wp2
      go_ret2
      rw [HRR.out]
      exact ⟨none, 0, rfl, IntsA.nil_, hbw⟩
end Go.Proofs.Ytilnbiaabhdfgaa
