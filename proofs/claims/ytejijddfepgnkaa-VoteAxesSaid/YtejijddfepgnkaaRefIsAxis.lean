/-
  The reference's IsAxis, all and of.
-/
import Derived.Test.YtejijddfepgnkaaRankVote
import Derived.Test.YtejijddfepgnkaaInfo
namespace Go.Proofs.Ytejijddfepgnkaa
open Go.RowKit
set_option linter.unusedVariables false
set_option linter.unusedSimpArgs false

/-- The j-th of the order lies behind the i-th and the k-th on the t-th ballot. -/
def vioAt (V : List (List Nat)) (o : List Nat) (i j k t : Nat) : Prop :=
  idx (up (V.getD t [])) ((o.getD i 0 : Nat) : Int) < idx (up (V.getD t [])) ((o.getD j 0 : Nat) : Int) ∧ idx (up (V.getD t [])) ((o.getD k 0 : Nat) : Int) < idx (up (V.getD t [])) ((o.getD j 0 : Nat) : Int)
open Classical in
noncomputable def isAx (V : List (List Nat)) (o : List Nat) : Bool := @decide (∀ i, i < o.length → ∀ j, j < i → ∀ k, k < j → ∀ t, t < V.length → ¬ vioAt V o i j k t) (Classical.propDecidable _)
theorem isAx_iff {V : List (List Nat)} {o : List Nat} : isAx V o = true ↔ ∀ i, i < o.length → ∀ j, j < i → ∀ k, k < j → ∀ t, t < V.length → ¬ vioAt V o i j k t := by
  unfold isAx
  exact @decide_eq_true_iff _ (Classical.propDecidable _)
theorem isAx_no {V : List (List Nat)} {o : List Nat} {i j k t : Nat} (hi : i < o.length) (hj : j < i) (hk : k < j) (ht : t < V.length) (h : vioAt V o i j k t) : isAx V o = false := by
  cases hx : isAx V o with
  | false => rfl
  | true => exact absurd h (isAx_iff.1 hx i hi j hj k hk t ht)

set_option maxRecDepth 100000 in
set_option maxHeartbeats 3200000 in
theorem isAxis_any (A : Option Addr) (nv c : Nat) (V : List (List Nat)) (X : Option Addr) (m cx B : Nat) (o : List Nat) (w : World) (hV : V.length = nv) (hv60 : nv ≤ 60) (hrow : ∀ l ∈ V, l.length ≤ 60) (hA : RowsA w B A (upp V)) (ho : o.length = m) (hm60 : m ≤ 60) (hX : IntsA w B X (up o)) :
    Calls Try.prog 103 #[.slice A nv c, .slice X m cx] w fun e w' => e = .returned (.bool (isAx V o)) ∧ w = w' := by
  obtain ⟨r, hr⟩ : ∃ r, isAx V o = r := ⟨_, rfl⟩
  rw [hr]
  have HR := hide hr
  have HV := hide hV
  have HO := hide ho
  have HROW := hide hrow
  have HX := hide hX
  have HA := hide hA
  clear hr hV ho hrow hX hA
  go_enter Try.func103, Try.ntmps103
  go_wp2
  go_loop [13] (fun x => ∃ i : Nat, i ≤ m ∧ x = .int .i64 i ∧ Hid (∀ i', i' < i → ∀ j, j < i' → ∀ k, k < j → ∀ t, t < nv → ¬ vioAt V o i' j k t)) (fun x => m - (intOf x).toNat)
  case atStart => exact ⟨0, Nat.zero_le _, rfl, fun i' h => absurd h (by omega)⟩
  case round =>
    obtain ⟨i, hi, rfl, H1⟩ := hrel
    by_cases hli : i < m
    · go_wp2
      go_loop [17] (fun x => ∃ j : Nat, j ≤ i ∧ x = .int .i64 j ∧ Hid (∀ j', j' < j → ∀ k, k < j' → ∀ t, t < nv → ¬ vioAt V o i j' k t)) (fun x => i - (intOf x).toNat)
      case atStart => exact ⟨0, Nat.zero_le _, rfl, fun j' h => absurd h (by omega)⟩
      case round =>
        obtain ⟨j, hj, rfl, H2⟩ := hrel
        by_cases hlj : j < i
        · go_wp2
          go_loop [21] (fun x => ∃ k : Nat, k ≤ j ∧ x = .int .i64 k ∧ Hid (∀ k', k' < k → ∀ t, t < nv → ¬ vioAt V o i j k' t)) (fun x => j - (intOf x).toNat)
          case atStart => exact ⟨0, Nat.zero_le _, rfl, fun k' h => absurd h (by omega)⟩
          case round =>
            obtain ⟨k, hk, rfl, H3⟩ := hrel
            by_cases hlk : k < j
            · go_wp2
              go_loop [26] (fun x => ∃ t : Nat, t ≤ nv ∧ x = .int .i64 t ∧ Hid (∀ t', t' < t → ¬ vioAt V o i j k t')) (fun x => nv - (intOf x).toNat)
              case atStart => exact ⟨0, Nat.zero_le _, rfl, fun t' h => absurd h (by omega)⟩
              case round =>
                obtain ⟨t, ht, rfl, H4⟩ := hrel
                by_cases hlt : t < nv
                · obtain ⟨b1, o1, At, nt, ct, rfl, hb1, hc1, hx1, hle1, hI1⟩ := HA.out.at_ (k := t) (by rw [upp_length, HV.out]; exact hlt)
                  rw [upp_getD] at hI1 hx1
                  have hnt : nt ≤ 60 := by rw [← hx1.out, up_length]; exact HROW.out _ (getD_mem (by rw [HV.out]; exact hlt))
                  obtain ⟨b2, o2, xj, rfl, hb2, hc2, hxj⟩ := HX.out.at_ (k := j) (by rw [up_length, HO.out]; omega)
                  obtain ⟨b3, o3, xi, hA3, hb3, hc3, hxi⟩ := HX.out.at_ (k := i) (by rw [up_length, HO.out]; omega)
                  injection hA3 with hA3; injection hA3 with e1 e2
                  subst e1; subst e2
                  obtain ⟨b4, o4, xk, hA4, hb4, hc4, hxk⟩ := HX.out.at_ (k := k) (by rw [up_length, HO.out]; omega)
                  injection hA4 with hA4; injection hA4 with e1 e2
                  subst e1; subst e2
                  rw [up_getD] at hxj hxi hxk
                  have HV0 : Hid (vioAt V o i j k t ↔ idx (up (V.getD t [])) xi < idx (up (V.getD t [])) xj ∧ idx (up (V.getD t [])) xk < idx (up (V.getD t [])) xj) := by
                    show _ ↔ _
                    rw [vioAt, hxj.out, hxi.out, hxk.out]
                  have hlx : (j : Int) < (m : Int) := by omega
                  have hlx2 : (i : Int) < (m : Int) := by omega
                  have hlx3 : (k : Int) < (m : Int) := by omega
                  have hbi : ∀ x, -1 ≤ idx (up (V.getD t [])) x ∧ idx (up (V.getD t [])) x ≤ 60 := fun x => by
                    have h1 := fidx_bd (up (V.getD t [])).length fun i => (up (V.getD t [])).getD i 0 == x
                    have h2 : (up (V.getD t [])).length = nt := hx1.out
                    have h3 : -1 ≤ idx (up (V.getD t [])) x ∧ idx (up (V.getD t [])) x < ((up (V.getD t [])).length : Nat) := h1
                    rw [h2] at h3
                    omega
                  have HC : Hid (∀ x, Calls Try.prog 68 #[.slice At nt ct, .int .i64 x] w fun e w' => e = .returned (.int .i64 (idx (up (V.getD t [])) x)) ∧ w = w') := fun x => rank_any At nt ct B (up (V.getD t [])) x w hx1.out (by omega) hI1
                  have HCJ := hide (HC.out xj)
                  have HCI := hide (HC.out xi)
                  have HCK := hide (HC.out xk)
                  obtain ⟨yj, hyj⟩ : ∃ y, idx (up (V.getD t [])) xj = y := ⟨_, rfl⟩
                  obtain ⟨yi, hyi⟩ : ∃ y, idx (up (V.getD t [])) xi = y := ⟨_, rfl⟩
                  obtain ⟨yk, hyk⟩ : ∃ y, idx (up (V.getD t [])) xk = y := ⟨_, rfl⟩
                  have g1 := hbi xj
                  have g2 := hbi xi
                  have g3 := hbi xk
                  rw [hyj] at HCJ HV0 g1
                  rw [hyi] at HCI HV0 g2
                  rw [hyk] at HCK HV0 g3
                  clear hI1 hx1 hxj hxi hxk hbi HC hyj hyi hyk
                  by_cases d1 : yi < yj
                  · have q1 : decide (yi < yj) = true := decide_eq_true d1
                    by_cases d2 : yk < yj
                    · have q2 : decide (yk < yj) = true := decide_eq_true d2
                      have HF := hide (isAx_no (by rw [HO.out]; exact hli) hlj hlk (by rw [HV.out]; exact hlt) (HV0.out.2 ⟨d1, d2⟩))
                      go_wp2_with (first
                        | (go_at_call 68; with_reducible refine (HCJ.out).mono ?_; rintro e w' ⟨rfl, rfl⟩)
                        | (go_at_call 68; with_reducible refine (HCI.out).mono ?_; rintro e w' ⟨rfl, rfl⟩)
                        | (go_at_call 68; with_reducible refine (HCK.out).mono ?_; rintro e w' ⟨rfl, rfl⟩))
                      go_ret
                      have := HF.out
                      rw [HR.out] at this
                      subst this
                      exact ⟨rfl, rfl⟩
                    · have q2 : decide (yk < yj) = false := decide_eq_false d2
                      have HN : Hid (¬ vioAt V o i j k t) := fun h => d2 (HV0.out.1 h).2
                      clear d2
                      go_wp2_with (first
                        | (go_at_call 68; with_reducible refine (HCJ.out).mono ?_; rintro e w' ⟨rfl, rfl⟩)
                        | (go_at_call 68; with_reducible refine (HCI.out).mono ?_; rintro e w' ⟨rfl, rfl⟩)
                        | (go_at_call 68; with_reducible refine (HCK.out).mono ?_; rintro e w' ⟨rfl, rfl⟩))
                      go_round
                      case rel => exact ⟨t + 1, by omega, by go_num, fun t' h => by rcases (by omega : t' < t ∨ t' = t) with h9 | rfl; exact H4.out t' h9; exact HN.out⟩
                      case measure => simp [intOf] <;> omega
                  · have q1 : decide (yi < yj) = false := decide_eq_false d1
                    have HN : Hid (¬ vioAt V o i j k t) := fun h => d1 (HV0.out.1 h).1
                    clear d1
                    go_wp2_with (first
                      | (go_at_call 68; with_reducible refine (HCJ.out).mono ?_; rintro e w' ⟨rfl, rfl⟩)
                      | (go_at_call 68; with_reducible refine (HCI.out).mono ?_; rintro e w' ⟨rfl, rfl⟩))
                    go_round
                    case rel => exact ⟨t + 1, by omega, by go_num, fun t' h => by rcases (by omega : t' < t ∨ t' = t) with h9 | rfl; exact H4.out t' h9; exact HN.out⟩
                    case measure => simp [intOf] <;> omega
                · obtain rfl : nv = t := by omega
                  go_wp2
                  go_round
                  case rel => exact ⟨k + 1, by omega, by go_num, fun k' h t ht => by rcases (by omega : k' < k ∨ k' = k) with h9 | rfl; exact H3.out k' h9 t ht; exact H4.out t ht⟩
                  case measure => simp [intOf] <;> omega
            · obtain rfl : j = k := by omega
              go_wp2
              go_round
              case rel => exact ⟨j + 1, by omega, by go_num, fun j' h k hk' t ht => by rcases (by omega : j' < j ∨ j' = j) with h9 | rfl; exact H2.out j' h9 k hk' t ht; exact H3.out k hk' t ht⟩
              case measure => simp [intOf] <;> omega
        · obtain rfl : i = j := by omega
          go_wp2
          go_round
          case rel => exact ⟨i + 1, by omega, by go_num, fun i' h j hj' k hk t ht => by rcases (by omega : i' < i ∨ i' = i) with h9 | rfl; exact H1.out i' h9 j hj' k hk t ht; exact H2.out j hj' k hk t ht⟩
          case measure => simp [intOf] <;> omega
    · obtain rfl : m = i := by omega
      have HT : Hid (isAx V o = true) := isAx_iff.2 fun i hi j hj k hk t ht => H1.out i (by rw [← HO.out]; exact hi) j hj k hk t (by rw [← HV.out]; exact ht)
      go_wp2
      go_ret
      have := HT.out
      rw [HR.out] at this
      subst this
      exact ⟨rfl, rfl⟩

set_option maxHeartbeats 800000 in
theorem refAll_any (n : Nat) (w : World) (hn : n ≤ 60) :
    Calls Try.prog 81 #[.int .i64 n] w fun e w' => ∃ H c', e = .returned (.slice H n c') ∧ n ≤ c' ∧ IntsA w' w'.heap.size H (up (List.range n)) ∧ Below w.heap.size w w' := by
  have e9 : ∀ k : Nat, (up (List.range (k + 1))).map (Value.int .i64) = (up (List.range k)).map (Value.int .i64) ++ [Value.int .i64 (k : Int)] := fun k => by simp [up, List.range_succ]
  have HE := hide e9
  clear e9
  go_enter Try.func81, Try.ntmps81
  go_wp2
  go_loopw [3, 6] (fun v i wr => ∃ (k c' : Nat) (H : Option Addr), k ≤ n ∧ i = .int .i64 k ∧ v = .slice H k c' ∧ k ≤ c' ∧ wr.ownsRow w.heap.size 3 1 (.slice H k c') k ((up (List.range k)).map (Value.int .i64)) ∧ Below w.heap.size w wr)
    (fun _ i _ => n - (intOf i).toNat)
  case atStart => exact ⟨0, 0, none, Nat.zero_le _, rfl, rfl, Nat.le_refl _, World.ownsRow_nil _ _ _ _, Below.refl _ _⟩
  case round =>
    obtain ⟨k, c', H, hk, rfl, rfl, hkc, hown, hbel⟩ := hrel
    have HOW := hide hown
    have HBE := hide hbel
    clear hown
    by_cases hlt : k < n
    · go_wp2_with (at_builtin; refine wpList_app1 (w0 := wr) _ _ 23 3 (.int .i64 0) 8 rfl rfl Try.underlying23 info_int rfl w.heap.size (.slice H k c') k _ (.int .i64 (k : Nat)) rfl rfl rfl ⟨_, rfl⟩ HOW.out rfl (by omega) (by omega) (by have := hbel.size; omega) ?_; intro g cg w1 hown1 hc1 hc1m hg1 hgl hgrow; have HOW1 := hide hown1; have HG := hide hgrow; clear hown1 hgrow)
      go_roundw
      case rel => exact ⟨k + 1, cg, some ⟨g, 0, none⟩, by omega, by go_num, rfl, hc1, by rw [HE.out]; exact HOW1.out, HBE.out.grown HG.out HBE.out.size (fun q hq => (own_lt HOW.out q hq).1)⟩
      case measure => simp [intOf] <;> omega
    · obtain rfl : n = k := by omega
      go_wp2
      go_ret
      exact ⟨H, c', rfl, hkc, ints_of_own HOW.out, HBE.out⟩

set_option maxRecDepth 100000 in
set_option maxHeartbeats 1600000 in
theorem refOf_any (A : Option Addr) (v n c : Nat) (W : List (List Nat)) (X : Option Addr) (vv cx : Nat) (vs : List Nat) (w : World) (hW : W.length = v) (hv60 : v ≤ 60) (hA : RowsA w w.heap.size A (upp W)) (hvl : vs.length = vv) (hvv : vv ≤ 60) (hlt : ∀ x ∈ vs, x < v) (hX : IntsA w w.heap.size X (up vs)) :
    Calls Try.prog 83 #[.slice A v c, .slice X vv cx] w fun e w' => ∃ H c', e = .returned (.slice H vv c') ∧ vv ≤ c' ∧ RowsA w' w'.heap.size H (upp (vs.map fun x => W.getD x [])) ∧ Below w.heap.size w w' := by
  have e9 : ∀ k : Nat, k < vv → upp ((vs.take (k + 1)).map fun x => W.getD x []) = upp ((vs.take k).map fun x => W.getD x []) ++ [up (W.getD (vs.getD k 0) [])] := fun k hk => by
    rw [List.take_succ_eq_append_getElem (by omega), List.map_append, List.getD_eq_getElem?_getD (l := vs), List.getElem?_eq_getElem (by omega)]
    simp [upp]
  have HE := hide e9
  have HLT := hide hlt
  have HVL := hide hvl
  have HW := hide hW
  have HA := hide hA
  have HX := hide hX
  clear e9 hlt hvl hW hA hX
  go_enter Try.func83, Try.ntmps83
  go_wp2
  go_loopw [5, 10] (fun v i wr => ∃ (k c' : Nat) (H : Option Addr) (us : List Value), k ≤ vv ∧ i = .int .i64 k ∧ v = .slice H k c' ∧ k ≤ c' ∧ wr.ownsRow w.heap.size 23 1 (.slice H k c') k us ∧ RowVals wr (Value.slice H k c').ownBlock us (upp ((vs.take k).map fun x => W.getD x [])) ∧ Below w.heap.size w wr)
    (fun _ i _ => vv - (intOf i).toNat)
  case atStart => exact ⟨0, 0, none, [], Nat.zero_le _, rfl, rfl, Nat.le_refl _, World.ownsRow_nil _ _ _ _, by rw [List.take_zero]; exact RowVals.nil_, Below.refl _ _⟩
  case round =>
    obtain ⟨k, c', H, us, hk, rfl, rfl, hkc, hown, hrv, hbel⟩ := hrel
    have HOW := hide hown
    have HRV := hide hrv
    have HBE := hide hbel
    clear hown hrv
    by_cases hlt : k < vv
    · obtain ⟨b1, o1, x', rfl, hb1, hc1, hx1⟩ := (HX.out.below hbel).at_ (k := k) (by rw [up_length, HVL.out]; exact hlt)
      have hx' : x' = ((vs.getD k 0 : Nat) : Int) := by rw [← up_getD]; exact hx1.out.symm
      subst hx'
      have hxv := HLT.out (vs.getD k 0) (getD_mem (by rw [HVL.out]; exact hlt))
      have hek := HE.out k hlt
      generalize vs.getD k 0 = x at *
      have HEK := hide hek
      obtain ⟨b2, o2, A2, n2, c2, rfl, hb2, hc2, hx2, hle2, hI2⟩ := (HA.out.below hbel).at_ (k := x) (by rw [upp_length, HW.out]; exact hxv)
      rw [upp_getD] at hI2 hx2
      have HI2 := hide hI2
      have HX2 := hide hx2.out
      have hxl : (x : Int) < (v : Int) := by omega
      clear hx1 hx2 hI2 hek
      go_wp2_with (at_builtin; refine wpList_app1 (w0 := wr) _ _ 22 23 (.slice none 0 0) 24 rfl rfl Try.underlying22 info_ints rfl w.heap.size (.slice H k c') k us (.slice A2 n2 c2) rfl rfl rfl ⟨_, rfl⟩ HOW.out rfl (by omega) (by omega) (by have := hbel.size; omega) ?_; intro g cg w1 hown1 hc1 hc1m hg1 hgl hgrow; have HOW1 := hide hown1; have HG := hide hgrow; have HG1 := hide hg1; clear hown1 hgrow hg1)
      go_roundw
      case rel =>
        refine ⟨k + 1, cg, some ⟨g, 0, none⟩, _, by omega, by go_num, rfl, by omega, HOW1.out, ?_, HBE.out.grown HG.out HBE.out.size (fun q hq => (own_lt HOW.out q hq).1)⟩
        rw [HEK.out]
        refine HRV.out.snoc HG.out HG1.out HX2.out hle2 (HI2.out.top) fun h0 b o e => ?_
        intro e9
        obtain ⟨b', o', y, e1, h2, _⟩ := HI2.out.at_ (k := 0) (by exact h0)
        rw [e] at e1
        injection e1 with e1; injection e1 with e1
        have := (own_lt HOW.out b e9.symm).1
        omega
      case measure => simp [intOf] <;> omega
    · obtain rfl : vv = k := by omega
      have hrows := rows_of HRV.out HOW.out
      rw [← HVL.out, List.take_length] at hrows
      have HROWS := hide hrows
      clear hrows
      go_wp2
      go_ret
      exact ⟨H, c', rfl, hkc, HROWS.out, HBE.out⟩
end Go.Proofs.Ytejijddfepgnkaa
