/-
  The reference's Disagreement.
-/
import Derived.Test.YtejijddfepgnkaaDisagree
import Derived.Test.YtejijddfepgnkaaRankVote
namespace Go.Proofs.Ytejijddfepgnkaa
open Go.RowKit
set_option linter.unusedVariables false
set_option linter.unusedSimpArgs false

def rdC (W : List (List Nat)) (x y : Nat) : Nat := W.countP fun l => decide (place l y < place l x)
def rdR (W : List (List Nat)) (x : Nat) : List Nat → Nat
  | [] => 0
  | y :: r => rdC W x y + rdR W x r
def rdO (W : List (List Nat)) : List Nat → Nat
  | [] => 0
  | x :: r => rdR W x r + rdO W r
theorem disN_cons (W : List (List Nat)) (x : Nat) (r : List Nat) : disN W (x :: r) = (W.map fun l => disR l x r).sum + disN W r := by
  induction W with
  | nil => rfl
  | cons l W ih => simp only [disN, List.map_cons, List.sum_cons, disO] at ih ⊢; omega
theorem rdR_eq (W : List (List Nat)) (x : Nat) : ∀ r, rdR W x r = (W.map fun l => disR l x r).sum
  | [] => by
    induction W with
    | nil => rfl
    | cons l W ih => simp only [rdR, List.map_cons, List.sum_cons, disR, List.countP_nil] at ih ⊢; omega
  | y :: r => by
    rw [rdR, rdR_eq W x r]
    induction W with
    | nil => rfl
    | cons l W ih =>
      simp only [rdC, List.countP_cons, List.map_cons, List.sum_cons, disR] at ih ⊢
      omega
theorem rdO_eq (W : List (List Nat)) : ∀ o, rdO W o = disN W o
  | [] => by
    induction W with
    | nil => rfl
    | cons l W ih => simp only [rdO, disN, List.map_cons, List.sum_cons, disO] at ih ⊢; omega
  | x :: r => by rw [rdO, rdO_eq W r, disN_cons, rdR_eq]

set_option maxRecDepth 100000 in
set_option maxHeartbeats 3200000 in
theorem refDis_any (A X : Option Addr) (v n c cx B : Nat) (W : List (List Nat)) (o : List Nat) (w : World) (hW : BOk W v n) (ho : Ord o n) (hnc : n ≤ cx) (hA : RowsA w B A (upp W)) (hX : IntsA w B X (up o)) :
    Calls Try.prog 32 #[.slice A v c, .slice X n cx] w fun e w' => e = .returned (.int .i64 (disN W o : Nat)) ∧ w = w' := by
  have hn5 := hW.nle
  have h9 := hW.le
  have htot : disN W o ≤ 225 := by have := disN_le o (by rw [ho.len]; exact hn5) W; rw [hW.len] at this; omega
  rw [← rdO_eq] at htot ⊢
  have HW := hide hW
  have HO := hide ho
  clear hW ho
  go_enter Try.func32, Try.ntmps32
  go_wp2
  go_loop [5, 14] (fun s i => ∃ k s' : Nat, k ≤ n ∧ i = .int .i64 k ∧ s = .int .i64 s' ∧ Hid (s' + rdO W (o.drop k) = rdO W o)) (fun _ i => n - (intOf i).toNat)
  case atStart => exact ⟨0, 0, Nat.zero_le _, rfl, rfl, by show _ = _; simp⟩
  case round =>
    obtain ⟨i, s1, hi, rfl, rfl, hs⟩ := hrel
    by_cases hlti : i < n
    · obtain ⟨b4, o4, x', rfl, hb4, hc4, hx4⟩ := hX.at_ (k := i) (by rw [up_length, HO.out.len]; exact hlti)
      rw [up_getD] at hx4
      have e4 := hx4.out
      have hxn := HO.out.getD_lt hlti
      have hs2 : s1 + rdR W (o.getD i 0) (o.drop (i + 1)) + rdO W (o.drop (i + 1)) = rdO W o := by
        have := hs.out
        rw [drop_cons_nat (by rw [HO.out.len]; exact hlti)] at this
        simp only [rdO] at this
        omega
      generalize o.getD i 0 = x at *
      subst e4
      obtain ⟨A2, hsl, hI2⟩ := slice_rest (some ⟨b4, o4, none⟩) n cx (i + 1) (by omega) (by omega)
      have hI5 := hI2 w B (up o) (by rw [up_length]; exact HO.out.len) hX
      have HI5 : Hid (IntsA w B A2 (up (o.drop (i + 1)))) := by show IntsA _ _ _ _; rw [up, List.map_drop]; exact hI5
      have hlr : (o.drop (i + 1)).length = n - (i + 1) := by rw [List.length_drop, HO.out.len]
      have hmem : ∀ y ∈ o.drop (i + 1), y < n := fun y hy => (HO.out.mem y).1 (List.mem_of_mem_drop hy)
      generalize hrest : o.drop (i + 1) = rest at *
      have HREST := hide hrest
      have HLR := hide hlr
      have HMEM := hide hmem
      have HS3 := hide hs2
      have hbd2 : Hid (s1 + rdR W x rest ≤ 225) := by show _ ≤ _; omega
      have hs3 := hsl
      rw [show ((i + 1 : Nat) : Int) = (i : Int) + 1 by omega] at hs3
      clear hx4 hI2 hI5 hrest hlr hmem hs2 hsl hs
      go_wp2
      clear hs3
      go_loop [5, 24] (fun s q => ∃ j s' : Nat, j ≤ n - (i + 1) ∧ q = .int .i64 j ∧ s = .int .i64 s' ∧ Hid (s' + rdR W x (rest.drop j) = s1 + rdR W x rest)) (fun _ q => n - (i + 1) - (intOf q).toNat)
      case atStart => exact ⟨0, s1, Nat.zero_le _, rfl, rfl, rfl⟩
      case round =>
        obtain ⟨j, s2, hj, rfl, rfl, hs⟩ := hrel
        by_cases hltj : j < n - (i + 1)
        · obtain ⟨b5, o5, y', rfl, hb5, hc5, hx5⟩ := HI5.out.at_ (k := j) (by rw [up_length, HLR.out]; exact hltj)
          rw [up_getD] at hx5
          have e5 := hx5.out
          have hyn := HMEM.out (rest.getD j 0) (getD_mem (by rw [HLR.out]; exact hltj))
          have hs4 : s2 + rdC W x (rest.getD j 0) + rdR W x (rest.drop (j + 1)) = s1 + rdR W x rest := by
            have := hs.out
            rw [drop_cons_nat (by rw [HLR.out]; exact hltj)] at this
            simp only [rdR] at this
            omega
          generalize rest.getD j 0 = y at *
          subst e5
          have HS4 := hide hs4
          have hbd3 : Hid (s2 + rdC W x y ≤ 225) := by show _ ≤ _; have := hbd2.out; omega
          clear hs hs4 hx5
          go_wp2
          go_loop [5, 30] (fun s q => ∃ k s' : Nat, k ≤ v ∧ q = .int .i64 k ∧ s = .int .i64 s' ∧ Hid (s' + rdC (W.drop k) x y = s2 + rdC W x y)) (fun _ q => v - (intOf q).toNat)
          case atStart => exact ⟨0, s2, Nat.zero_le _, rfl, rfl, by show _ = _; simp⟩
          case round =>
            obtain ⟨k, s3, hk, rfl, rfl, hs⟩ := hrel
            by_cases hltk : k < v
            · obtain ⟨b3, o3, A3, n3, c3, rfl, hb3, hc3, hx3, hle3, hI3⟩ := hA.at_ (k := k) (by rw [upp_length, HW.out.len]; exact hltk)
              rw [upp_getD] at hI3 hx3
              have hri := HW.out.rows k hltk
              obtain rfl : n = n3 := by have := hx3.out; rw [up_length, hri.len] at this; exact this
              have hs5 : (s3 + if place (W.getD k []) y < place (W.getD k []) x then 1 else 0) + rdC (W.drop (k + 1)) x y = s2 + rdC W x y := by
                have := hs.out
                rw [drop_cons_row (by rw [HW.out.len]; exact hltk)] at this
                simp only [rdC, List.countP_cons, decide_eq_true_eq] at this ⊢
                omega
              generalize W.getD k [] = l at *
              have HC1 := hide ((rank_any A3 n c3 B (up l) (x : Int) w (by rw [up_length, hri.len]) (by omega) hI3).mono fun e w' h => (show e = .returned (.int .i64 (place l x)) ∧ w = w' from ⟨by rw [h.1, idx_up_mem ((hri.mem x).2 hxn)], h.2⟩))
              have HC2 := hide ((rank_any A3 n c3 B (up l) (y : Int) w (by rw [up_length, hri.len]) (by omega) hI3).mono fun e w' h => (show e = .returned (.int .i64 (place l y)) ∧ w = w' from ⟨by rw [h.1, idx_up_mem ((hri.mem y).2 hyn)], h.2⟩))
              have hb3' := hbd3.out
              by_cases hd : place l y < place l x
              · rw [if_pos hd] at hs5
                have HS5 := hide hs5
                have hle : s3 + 1 ≤ 225 := by omega
                have hdd : (place l y : Int) < (place l x : Int) := by omega
                generalize place l x = p1 at *
                generalize place l y = p2 at *
                clear hs hs5 hx3 hri hI3
                go_wp2_with (first
                  | (go_at_call 68; with_reducible refine (HC1.out).mono ?_; rintro e w' ⟨rfl, rfl⟩)
                  | (go_at_call 68; with_reducible refine (HC2.out).mono ?_; rintro e w' ⟨rfl, rfl⟩))
                go_round
                case rel => exact ⟨k + 1, s3 + 1, by omega, by go_num, by go_num, HS5.out⟩
                case measure => simp [intOf] <;> omega
              · rw [if_neg hd] at hs5
                have HS5 := hide hs5
                have hdd : ¬ (place l y : Int) < (place l x : Int) := by omega
                generalize place l x = p1 at *
                generalize place l y = p2 at *
                clear hs hs5 hx3 hri hI3
                go_wp2_with (first
                  | (go_at_call 68; with_reducible refine (HC1.out).mono ?_; rintro e w' ⟨rfl, rfl⟩)
                  | (go_at_call 68; with_reducible refine (HC2.out).mono ?_; rintro e w' ⟨rfl, rfl⟩))
                go_round
                case rel => exact ⟨k + 1, s3, by omega, by go_num, rfl, HS5.out⟩
                case measure => simp [intOf] <;> omega
            · obtain rfl : v = k := by omega
              have hs6 : s3 = s2 + rdC W x y := by
                have := hs.out
                rw [List.drop_eq_nil_of_le (by rw [HW.out.len]; omega)] at this
                simpa [rdC] using this
              have HS6 := hide hs6
              clear hs hs6
              go_wp2
              go_round
              case rel => exact ⟨j + 1, s3, by omega, by go_num, rfl, by show _ = _; rw [HS6.out]; exact HS4.out⟩
              case measure => simp [intOf] <;> omega
        · obtain rfl : n - (i + 1) = j := by omega
          have hs6 : s2 = s1 + rdR W x rest := by
            have := hs.out
            rw [List.drop_eq_nil_of_le (by rw [HLR.out]; omega)] at this
            simpa [rdR] using this
          have HS6 := hide hs6
          clear hs hs6
          go_wp2
          go_round
          case rel => exact ⟨i + 1, s2, by omega, by go_num, rfl, by show _ = _; rw [HS6.out, HREST.out]; exact HS3.out⟩
          case measure => simp [intOf] <;> omega
    · obtain rfl : n = i := by omega
      have hs6 : s1 = rdO W o := by
        have := hs.out
        rw [List.drop_eq_nil_of_le (by rw [HO.out.len]; omega)] at this
        simpa [rdO] using this
      have HS6 := hide hs6
      clear hs hs6
      go_wp2
      go_ret
      exact ⟨by rw [← HS6.out]; rfl, rfl⟩
end Go.Proofs.Ytejijddfepgnkaa
