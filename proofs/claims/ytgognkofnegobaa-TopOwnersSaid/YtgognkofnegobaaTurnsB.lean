/-
  turns: slices.Min and Max of ones, lists, valid, of plans with as many shifts as hands and one place each.
-/
import Derived.Test.YtgognkofnegobaaTurnsA
import Derived.BigQuiet
import Derived.Deep.Cut
namespace Go.Proofs.Ytgognkofnegobaa
open Go.RowKit
set_option linter.unusedVariables false
set_option linter.unusedSimpArgs false

theorem slice_pre (A : Option Addr) (n c j : Nat) (hj : j ≤ n) (hnc : n ≤ c) (w : World) : (Instr.slice 24 (.slice A n c) none (some (.int .i64 j)) none).run Try.prog w = .ok (.slice A j c) w := by
  have ht : Try.prog.underlying 24 = some (.slice (Try.prog.elem 24)) := by kernel_rfl
  have hz : (sizeOf (Try.prog.elem 24)).run Try.prog w = .ok 1 w := by kernel_rfl
  rw [run_slice_h (ht := ht) (h0 := by omega) (h2 := by omega)]
  simp only [Result.andThen, hz]
  unfold sliced
  by_cases h : c = 0
  · simp [h]
  · rw [if_neg h]; cases A <;> simp [Addr.add]

set_option maxHeartbeats 800000 in
theorem min1_any (A : Option Addr) (n c B : Nat) (w : World) (hn : n ≤ 4) (hn1 : 1 ≤ n) (hA : IntsA w B A (up (List.replicate n 1))) :
    Calls Try.prog 61 #[.slice A n c] w fun e w' => e = .returned (.int .i64 1) ∧ w = w' := by
  have HA : Hid (∀ k, k < n → ∃ b o, A = some ⟨b, o, none⟩ ∧ w.cell? ⟨b, o + k, none⟩ = some (.int .i64 1)) := fun k hk => by
    obtain ⟨b, o, x, e, _, hc, hx⟩ := hA.at_ (k := k) (by rw [up_length, List.length_replicate]; exact hk)
    rw [up_getD] at hx
    have : (List.replicate n 1).getD k 0 = 1 := by rw [List.getD_eq_getElem?_getD, List.getElem?_replicate, if_pos hk]; rfl
    rw [← hx.out, this] at hc
    exact ⟨b, o, e, hc⟩
  obtain ⟨b0, o0, rfl, hc0⟩ := HA.out 0 (by omega)
  rw [Nat.add_zero] at hc0
  have h1 : decide ((n : Int) < 1) = false := decide_eq_false (by omega)
  have hi0 : (0 : Int) < (n : Int) := by omega
  clear hA
  go_enter Try.func61, Try.ntmps61
  go_wp2
  clear hc0
  go_loop [3, 4] (fun m x => ∃ k : Nat, 1 ≤ k ∧ k ≤ n ∧ x = .int .i64 k ∧ m = .int .i64 1) (fun _ x => n - (intOf x).toNat)
  case atStart => exact ⟨1, Nat.le_refl _, hn1, rfl, rfl⟩
  case round =>
    obtain ⟨k, hk1, hk, rfl, rfl⟩ := hrel
    by_cases hlt : k < n
    · obtain ⟨b1, o1, e1, hc1⟩ := HA.out k hlt
      injection e1 with e1; injection e1 with e2 e3
      subst e2; subst e3
      have hkn : (k : Int) < (n : Int) := by omega
      go_wp2
      go_round
      case rel => exact ⟨k + 1, by omega, by omega, by go_num, rfl⟩
      case measure => simp [intOf] <;> omega
    · obtain rfl : n = k := by omega
      go_wp2
      go_ret
      exact ⟨rfl, rfl⟩

set_option maxHeartbeats 800000 in
theorem max1_any (A : Option Addr) (n c B : Nat) (w : World) (hn : n ≤ 4) (hn1 : 1 ≤ n) (hA : IntsA w B A (up (List.replicate n 1))) :
    Calls Try.prog 62 #[.slice A n c] w fun e w' => e = .returned (.int .i64 1) ∧ w = w' := by
  have HA : Hid (∀ k, k < n → ∃ b o, A = some ⟨b, o, none⟩ ∧ w.cell? ⟨b, o + k, none⟩ = some (.int .i64 1)) := fun k hk => by
    obtain ⟨b, o, x, e, _, hc, hx⟩ := hA.at_ (k := k) (by rw [up_length, List.length_replicate]; exact hk)
    rw [up_getD] at hx
    have : (List.replicate n 1).getD k 0 = 1 := by rw [List.getD_eq_getElem?_getD, List.getElem?_replicate, if_pos hk]; rfl
    rw [← hx.out, this] at hc
    exact ⟨b, o, e, hc⟩
  obtain ⟨b0, o0, rfl, hc0⟩ := HA.out 0 (by omega)
  rw [Nat.add_zero] at hc0
  have h1 : decide ((n : Int) < 1) = false := decide_eq_false (by omega)
  have hi0 : (0 : Int) < (n : Int) := by omega
  clear hA
  go_enter Try.func62, Try.ntmps62
  go_wp2
  clear hc0
  go_loop [3, 4] (fun m x => ∃ k : Nat, 1 ≤ k ∧ k ≤ n ∧ x = .int .i64 k ∧ m = .int .i64 1) (fun _ x => n - (intOf x).toNat)
  case atStart => exact ⟨1, Nat.le_refl _, hn1, rfl, rfl⟩
  case round =>
    obtain ⟨k, hk1, hk, rfl, rfl⟩ := hrel
    by_cases hlt : k < n
    · obtain ⟨b1, o1, e1, hc1⟩ := HA.out k hlt
      injection e1 with e1; injection e1 with e2 e3
      subst e2; subst e3
      have hkn : (k : Int) < (n : Int) := by omega
      go_wp2
      go_round
      case rel => exact ⟨k + 1, by omega, by omega, by go_num, rfl⟩
      case measure => simp [intOf] <;> omega
    · obtain rfl : n = k := by omega
      go_wp2
      go_ret
      exact ⟨rfl, rfl⟩

set_option maxRecDepth 100000 in
set_option maxHeartbeats 1600000 in
theorem lists_any (A : Option Addr) (n c B : Nat) (W : List (List Nat)) (w : World) (hn : n ≤ 4) (hW : SqOk W n) (hA : RowsA w B A (upp W)) :
    Calls Try.prog 63 #[.slice A n c, .int .i64 (n : Nat)] w fun e w' => e = .returned (.bool true) ∧ w = w' := by
  have HW := hide hW
  have HA := hide hA
  clear hW hA
  go_enter Try.func63, Try.ntmps63
  go_wp2
  go_loop [11] (fun x => ∃ i : Nat, i ≤ n ∧ x = .int .i64 i) (fun x => n - (intOf x).toNat)
  case atStart => exact ⟨0, Nat.zero_le _, rfl⟩
  case round =>
    obtain ⟨i, hi, rfl⟩ := hrel
    by_cases hlt : i < n
    · obtain ⟨b1, o1, A1, n1, c1, rfl, hb1, hc1, hx1, hle1, hI1⟩ := HA.out.at_ (k := i) (by rw [upp_length, HW.out.len]; exact hlt)
      rw [upp_getD] at hx1 hI1
      have ho := HW.out.rows i hlt
      obtain rfl : n = n1 := by have := hx1.out; rw [up_length, ho.len] at this; exact this
      have HI := hide hI1
      have HO := hide ho
      have HX := hide hx1.out
      have hin : (i : Int) < (n : Int) := by omega
      clear hx1 hI1 ho
      go_wp2
      go_loop [17] (fun x => ∃ j : Nat, j ≤ n ∧ x = .int .i64 j) (fun x => n - (intOf x).toNat)
      case atStart => exact ⟨0, Nat.zero_le _, rfl⟩
      case round =>
        obtain ⟨j, hj, rfl⟩ := hrel
        by_cases hltj : j < n
        · obtain ⟨b2, o2, xj, rfl, hb2, hc2, hxj⟩ := HI.out.at_ (k := j) (by rw [HX.out]; exact hltj)
          have hxj' : xj = (((W.getD i []).getD j 0 : Nat) : Int) := by rw [← up_getD]; exact hxj.out.symm
          subst hxj'
          have hxn := HO.out.getD_lt hltj
          have hno : ¬ (((W.getD i []).getD j 0 : Nat) : Int) ∈ (up (W.getD i [])).take j := by
            intro h
            obtain ⟨k, hk, e⟩ := List.getElem_of_mem h
            rw [List.length_take, HX.out] at hk
            rw [List.getElem_take] at e
            have e2 : (up (W.getD i [])).getD k 0 = (((W.getD i []).getD j 0 : Nat) : Int) := by rw [List.getD_eq_getElem?_getD, List.getElem?_eq_getElem (by rw [HX.out]; omega)]; exact e
            rw [up_getD] at e2
            have := HO.out.inj k j (by omega) hltj (by omega)
            omega
          have HC := hide (contains_any (some ⟨b2, o2, none⟩) j c1 B ((up (W.getD i [])).take j) (((W.getD i []).getD j 0 : Nat) : Int) w (by rw [List.length_take, HX.out]; omega) (by omega) (fun k hk => by
            rw [List.length_take, HX.out] at hk
            obtain ⟨b, o, e1, e2, e3⟩ := HI.out k (by rw [HX.out]; omega)
            refine ⟨b, o, e1, e2, ?_⟩
            rw [e3]
            simp [List.getD_eq_getElem?_getD, List.getElem?_take, show k < j by omega]))
          rw [decide_eq_false hno] at HC
          have hsl := slice_pre (some ⟨b2, o2, none⟩) n c1 j hj hle1
          generalize (W.getD i []).getD j 0 = x at *
          have hx0 : decide ((x : Int) < 0) = false := decide_eq_false (by omega)
          have hx9 : decide ((n : Int) ≤ (x : Int)) = false := decide_eq_false (by omega)
          have hjn : (j : Int) < (n : Int) := by omega
          clear hxj hno
          go_wp2_with (go_at_call 16; refine (HC.out).mono ?_; rintro e w' ⟨rfl, rfl⟩)
          go_round
          case rel => exact ⟨j + 1, by omega, by go_num⟩
          case measure => simp [intOf] <;> omega
        · obtain rfl : n = j := by omega
          go_wp2
          go_round
          case rel => exact ⟨i + 1, by omega, by go_num⟩
          case measure => simp [intOf] <;> omega
    · obtain rfl : n = i := by omega
      go_wp2
      go_ret
      exact ⟨rfl, rfl⟩

set_option maxRecDepth 100000 in
set_option maxHeartbeats 1600000 in
theorem tvalid_any (HA SA PA : Option Addr) (n hc sc pc : Nat) (H S : List (List Nat)) (w : World) (hn : n ≤ 4) (hn1 : 1 ≤ n) (hP : PlanA w w.heap.size HA SA PA n H S) :
    Calls Try.prog 36 #[.agg #[.slice HA n hc, .slice SA n sc, .slice PA n pc]] w fun e w' => e = .returned (.bool true) ∧ Below w.heap.size w w' := by
  obtain ⟨w1, hw1⟩ : ∃ w1, w1 = w.alloc (.cells #[.slice HA n hc, .slice SA n sc, .slice PA n pc] 33) := ⟨_, rfl⟩
  have hb1 : Below w.heap.size w w1 := by subst hw1; exact (Below.refl _ _).alloc (Nat.le_refl _) _
  have hbx : w1.heap[w.heap.size]? = some (.cells #[.slice HA n hc, .slice SA n sc, .slice PA n pc] 33 (0, 0)) := by rw [hw1]; exact alloc_new _ _ _ rfl
  have HQ : Hid (∀ w', Below w1.heap.size w1 w' → w'.cell? ⟨w.heap.size, 0, none⟩ = some (.slice HA n hc) ∧ w'.cell? ⟨w.heap.size, 1, none⟩ = some (.slice SA n sc) ∧ w'.cell? ⟨w.heap.size, 2, none⟩ = some (.slice PA n pc)) := fun w' hb => by
    have h := (hb.block _ (lt_of_block hbx)).trans hbx
    have q0 := blk_cell h 0
    have q1 := blk_cell h 1
    have q2 := blk_cell h 2
    simp only [List.getElem?_toArray, List.getElem?_cons_zero, List.getElem?_cons_succ] at q0 q1 q2
    exact ⟨q0, q1, q2⟩
  have HMN := hide (fun w' (hb : Below w.heap.size w w') => min1_any PA n pc w'.heap.size w' hn hn1 (hP.next hb).p)
  have HMX := hide (fun w' (hb : Below w.heap.size w w') => max1_any PA n pc w'.heap.size w' hn hn1 (hP.next hb).p)
  have HLH := hide (fun w' (hb : Below w.heap.size w w') => lists_any HA n hc w'.heap.size H w' hn hP.hok (hP.next hb).h)
  have HLS := hide (fun w' (hb : Below w.heap.size w w') => lists_any SA n sc w'.heap.size S w' hn hP.sok (hP.next hb).s)
  have d1 : decide ((1 : Int) ≤ (n : Int)) = true := decide_eq_true (by omega)
  have d2 : decide ((n : Int) ≤ 6) = true := decide_eq_true (by omega)
  have d3 : decide ((n : Int) ≤ 4) = true := decide_eq_true (by omega)
  have HB := hide hb1
  have HW := hide hw1
  obtain ⟨q0, q1, q2⟩ := HQ.out w1 (Below.refl _ _)
  clear hP hw1 hbx hb1
  go_enter Try.func36, Try.ntmps36
  go_upto_region 1 with (fail)
  rw [← HW.out]
  have HBD : Hid (∀ m, Below w.heap.size w (w1.drewN m)) := fun m => below_drewN HB.out m
  go_quiet (fail)
  go_wp2_with (first
    | (go_at_call 61; refine (HMN.out _ (HBD.out _)).mono ?_; rintro e w' ⟨rfl, rfl⟩)
    | (go_at_call 62; refine (HMX.out _ (HBD.out _)).mono ?_; rintro e w' ⟨rfl, rfl⟩)
    | (go_at_call 63; with_reducible refine (HLH.out _ (HBD.out _)).mono ?_; rintro e w' ⟨rfl, rfl⟩)
    | (go_at_call 63; with_reducible refine (HLS.out _ (HBD.out _)).mono ?_; rintro e w' ⟨rfl, rfl⟩))
  go_ret
  exact ⟨rfl, HBD.out _⟩
end Go.Proofs.Ytgognkofnegobaa
