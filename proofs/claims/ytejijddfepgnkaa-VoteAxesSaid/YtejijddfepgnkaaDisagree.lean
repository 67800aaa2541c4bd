/-
  vote: ballots.disagreement.
-/
import Derived.Test.YtejijddfepgnkaaIndex
import Derived.Test.YtejijddfepgnkaaMargins
namespace Go.Proofs.Ytejijddfepgnkaa
open Go.RowKit
set_option linter.unusedVariables false
set_option linter.unusedSimpArgs false

/-- How many of the rest the ballot puts before x. -/
def disR (l : List Nat) (x : Nat) (r : List Nat) : Nat := r.countP fun y => decide (place l y < place l x)
def disO (l : List Nat) : List Nat → Nat
  | [] => 0
  | x :: r => disR l x r + disO l r
def disN (W : List (List Nat)) (o : List Nat) : Nat := (W.map fun l => disO l o).sum
theorem disR_le (l : List Nat) (x : Nat) (r : List Nat) : disR l x r ≤ r.length := List.countP_le_length
theorem disO_le (l : List Nat) : ∀ o : List Nat, disO l o ≤ o.length * o.length := by
  intro o
  induction o with
  | nil => simp [disO]
  | cons x r ih =>
    have := disR_le l x r
    simp only [disO, List.length_cons]
    have h : (r.length + 1) * (r.length + 1) = r.length * r.length + 2 * r.length + 1 := by rw [Nat.mul_add, Nat.add_mul]; omega
    omega
theorem disN_le (o : List Nat) (ho : o.length ≤ 5) : ∀ W : List (List Nat), disN W o ≤ 25 * W.length := by
  intro W
  induction W with
  | nil => simp [disN]
  | cons l W ih =>
    have h1 := disO_le l o
    have h2 : o.length * o.length ≤ 5 * 5 := Nat.mul_le_mul ho ho
    simp only [disN, List.map_cons, List.sum_cons, List.length_cons] at ih ⊢
    omega
theorem drop_cons_nat {l : List Nat} {i : Nat} (h : i < l.length) : l.drop i = l.getD i 0 :: l.drop (i + 1) := by
  rw [List.drop_eq_getElem_cons h]; simp [List.getD_eq_getElem?_getD, h]
theorem drop_cons_row {l : List (List Nat)} {i : Nat} (h : i < l.length) : l.drop i = l.getD i [] :: l.drop (i + 1) := by
  rw [List.drop_eq_getElem_cons h]; simp [List.getD_eq_getElem?_getD, h]

set_option maxRecDepth 100000 in
set_option maxHeartbeats 3200000 in
theorem disagreement_any (A X : Option Addr) (v n c cx B : Nat) (W : List (List Nat)) (o : List Nat) (w : World) (hW : BOk W v n) (ho : Ord o n) (hnc : n ≤ cx) (hA : RowsA w B A (upp W)) (hX : IntsA w B X (up o)) :
    Calls Try.prog 65 #[.slice A v c, .slice X n cx] w fun e w' => e = .returned (.int .i64 (disN W o : Nat)) ∧ w = w' := by
  have hn5 := hW.nle
  have h9 := hW.le
  have htot : disN W o ≤ 225 := by have := disN_le o (by rw [ho.len]; exact hn5) W; rw [hW.len] at this; omega
  have HW := hide hW
  have HO := hide ho
  clear hW ho
  go_enter Try.func65, Try.ntmps65
  go_wp2
  go_loop [5, 14] (fun s i => ∃ k s' : Nat, k ≤ v ∧ i = .int .i64 k ∧ s = .int .i64 s' ∧ Hid (s' + disN (W.drop k) o = disN W o)) (fun _ i => v - (intOf i).toNat)
  case atStart => exact ⟨0, 0, Nat.zero_le _, rfl, rfl, by show _ = _; simp⟩
  case round =>
    obtain ⟨k, s0, hk, rfl, rfl, hs⟩ := hrel
    by_cases hlt : k < v
    · obtain ⟨b3, o3, A3, n3, c3, rfl, hb3, hc3, hx3, hle3, hI3⟩ := hA.at_ (k := k) (by rw [upp_length, HW.out.len]; exact hlt)
      rw [upp_getD] at hI3 hx3
      have hri := HW.out.rows k hlt
      obtain rfl : n = n3 := by have := hx3.out; rw [up_length, hri.len] at this; exact this
      have hs2 : s0 + disO (W.getD k []) o + disN (W.drop (k + 1)) o = disN W o := by
        have := hs.out
        rw [drop_cons_row (by rw [HW.out.len]; exact hlt)] at this
        simp only [disN, List.map_cons, List.sum_cons] at this ⊢
        omega
      have HS2 := hide hs2
      generalize W.getD k [] = l at *
      have HRI := hide hri
      have hbd : s0 + disO l o ≤ 225 := by omega
      have HBD := hide hbd
      clear hri hx3 hs hs2 hbd
      go_wp2
      go_loop [5, 20] (fun s i => ∃ i' s' : Nat, i' ≤ n ∧ i = .int .i64 i' ∧ s = .int .i64 s' ∧ Hid (s' + disO l (o.drop i') = s0 + disO l o)) (fun _ i => n - (intOf i).toNat)
      case atStart => exact ⟨0, s0, Nat.zero_le _, rfl, rfl, rfl⟩
      case round =>
        obtain ⟨i, s1, hi, rfl, rfl, hs⟩ := hrel
        by_cases hlti : i < n
        · obtain ⟨b4, o4, x', rfl, hb4, hc4, hx4⟩ := hX.at_ (k := i) (by rw [up_length, HO.out.len]; exact hlti)
          rw [up_getD] at hx4
          have e4 := hx4.out
          have hxn := HO.out.getD_lt hlti
          have hs2 : s1 + disR l (o.getD i 0) (o.drop (i + 1)) + disO l (o.drop (i + 1)) = s0 + disO l o := by
            have := hs.out
            rw [drop_cons_nat (by rw [HO.out.len]; exact hlti)] at this
            simp only [disO] at this
            omega
          generalize o.getD i 0 = x at *
          subst e4
          obtain ⟨A2, hsl, hI2⟩ := slice_rest (some ⟨b4, o4, none⟩) n cx (i + 1) (by omega) (by omega)
          have hI5 := hI2 w B (up o) (by rw [up_length]; exact HO.out.len) hX
          have HI5 : Hid (IntsA w B A2 (up (o.drop (i + 1)))) := by show IntsA _ _ _ _; rw [up, List.map_drop]; exact hI5
          have hlr : (o.drop (i + 1)).length = n - (i + 1) := by rw [List.length_drop, HO.out.len]
          have hmem : ∀ y ∈ o.drop (i + 1), y < n := fun y hy => (HO.out.mem y).1 (List.mem_of_mem_drop hy)
          generalize hrest : o.drop (i + 1) = rest at *
          have HREST := hide hrest
          have HLR := hide hlr
          have HMEM := hide hmem
          have HS3 := hide hs2
          have hbd2 : Hid (s1 + disR l x rest ≤ 225) := by show _ ≤ _; have := HBD.out; omega
          have hs3 := hsl
          rw [show ((i + 1 : Nat) : Int) = (i : Int) + 1 by omega] at hs3
          clear hx4 hI2 hI5 hrest hlr hmem hs2 hsl hs
          go_wp2
          clear hs3
          go_loop [5, 30] (fun s q => ∃ j s' : Nat, j ≤ n - (i + 1) ∧ q = .int .i64 j ∧ s = .int .i64 s' ∧ Hid (s' + disR l x (rest.drop j) = s1 + disR l x rest)) (fun _ q => n - (i + 1) - (intOf q).toNat)
          case atStart => exact ⟨0, s1, Nat.zero_le _, rfl, rfl, rfl⟩
          case round =>
            obtain ⟨j, s2, hj, rfl, rfl, hs⟩ := hrel
            by_cases hltj : j < n - (i + 1)
            · obtain ⟨b5, o5, y', rfl, hb5, hc5, hx5⟩ := HI5.out.at_ (k := j) (by rw [up_length, HLR.out]; exact hltj)
              rw [up_getD] at hx5
              have e5 := hx5.out
              have hyn := HMEM.out (rest.getD j 0) (getD_mem (by rw [HLR.out]; exact hltj))
              have hs4 : (s2 + if place l (rest.getD j 0) < place l x then 1 else 0) + disR l x (rest.drop (j + 1)) = s1 + disR l x rest := by
                have := hs.out
                rw [drop_cons_nat (by rw [HLR.out]; exact hltj)] at this
                simp only [disR, List.countP_cons, decide_eq_true_eq] at this ⊢
                omega
              generalize rest.getD j 0 = y at *
              subst e5
              have HC1 := hide ((index_any A3 n c3 B (up l) (x : Int) w (by rw [up_length, HRI.out.len]) (by omega) hI3).mono fun e w' h => (show e = .returned (.int .i64 (place l x)) ∧ w = w' from ⟨by rw [h.1, idx_up_mem ((HRI.out.mem x).2 hxn)], h.2⟩))
              have HC2 := hide ((index_any A3 n c3 B (up l) (y : Int) w (by rw [up_length, HRI.out.len]) (by omega) hI3).mono fun e w' h => (show e = .returned (.int .i64 (place l y)) ∧ w = w' from ⟨by rw [h.1, idx_up_mem ((HRI.out.mem y).2 hyn)], h.2⟩))
              have hb2 := hbd2.out
              by_cases hd : place l y < place l x
              · rw [if_pos hd] at hs4
                have HS4 := hide hs4
                have hle : s2 + 1 ≤ 225 := by omega
                have hdd : (place l y : Int) < (place l x : Int) := by omega
                generalize place l x = p1 at *
                generalize place l y = p2 at *
                clear hs hs4 hx5
                go_wp2_with (first
                  | (go_at_call 26; with_reducible refine (HC1.out).mono ?_; rintro e w' ⟨rfl, rfl⟩)
                  | (go_at_call 26; with_reducible refine (HC2.out).mono ?_; rintro e w' ⟨rfl, rfl⟩))
                go_round
                case rel => exact ⟨j + 1, s2 + 1, by omega, by go_num, by go_num, HS4.out⟩
                case measure => simp [intOf] <;> omega
              · rw [if_neg hd] at hs4
                have HS4 := hide hs4
                have hdd : ¬ ((place l y : Int) < (place l x : Int)) := by omega
                generalize place l x = p1 at *
                generalize place l y = p2 at *
                clear hs hs4 hx5
                go_wp2_with (first
                  | (go_at_call 26; with_reducible refine (HC1.out).mono ?_; rintro e w' ⟨rfl, rfl⟩)
                  | (go_at_call 26; with_reducible refine (HC2.out).mono ?_; rintro e w' ⟨rfl, rfl⟩))
                go_round
                case rel => exact ⟨j + 1, s2, by omega, by go_num, rfl, HS4.out⟩
                case measure => simp [intOf] <;> omega
            · obtain rfl : j = n - (i + 1) := by omega
              have hfin : s2 + disO l (o.drop (i + 1)) = s0 + disO l o := by
                have h := hs.out
                rw [List.drop_eq_nil_of_le (by rw [HLR.out]; exact Nat.le_refl _)] at h
                have h2 := HS3.out
                rw [HREST.out]
                simp only [disR, List.countP_nil] at h h2
                omega
              have HF := hide hfin
              clear hs hfin
              go_wp2
              go_round
              case rel => exact ⟨i + 1, s2, by omega, by go_num, rfl, HF.out⟩
              case measure => simp [intOf] <;> omega
        · obtain rfl : n = i := by omega
          have hfin : s1 + disN (W.drop (k + 1)) o = disN W o := by
            have h := hs.out
            rw [List.drop_eq_nil_of_le (by rw [HO.out.len]; exact Nat.le_refl _)] at h
            have h2 := HS2.out
            simp only [disO] at h
            omega
          have HF := hide hfin
          clear hs hfin
          go_wp2
          go_round
          case rel => exact ⟨k + 1, s1, by omega, by go_num, rfl, HF.out⟩
          case measure => simp [intOf] <;> omega
    · obtain rfl : v = k := by omega
      have hfin : s0 = disN W o := by
        have h := hs.out
        rw [List.drop_eq_nil_of_le (by rw [HW.out.len]; exact Nat.le_refl _)] at h
        simpa [disN] using h
      have HF := hide hfin
      clear hs hfin
      go_wp2
      go_ret
      exact ⟨by rw [← HF.out]; rfl, rfl⟩
end Go.Proofs.Ytejijddfepgnkaa
