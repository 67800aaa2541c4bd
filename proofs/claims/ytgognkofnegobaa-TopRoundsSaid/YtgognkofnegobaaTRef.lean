/-
  The reference's Valid of values.
-/
import Derived.Test.YtgognkofnegobaaInfo
import Derived.Test.YtgognkofnegobaaBase
namespace Go.Proofs.Ytgognkofnegobaa
open Go.RowKit
set_option linter.unusedVariables false
set_option linter.unusedSimpArgs false

def worthsB (l : List Int) : Bool := l.all fun x => decide (0 ≤ x ∧ x ≤ 100)
def rowB (m : Nat) (l : List Int) : Bool := decide (l.length = m ∧ 1 ≤ l.length ∧ l.length ≤ 7) && worthsB l
def vB01 (L : List (List Int)) : Bool := decide (1 ≤ L.length ∧ L.length ≤ 4) && L.all (rowB (L.getD 0 []).length)
theorem worths_no {l : List Int} {k : Nat} (hk : k < l.length) (h : ¬ (0 ≤ l.getD k 0 ∧ l.getD k 0 ≤ 100)) : worthsB l = false := by
  cases hw : worthsB l with
  | false => rfl
  | true =>
    rw [worthsB, List.all_eq_true] at hw
    exact absurd (of_decide_eq_true (hw _ (getD_mem hk))) h
theorem worths_yes {l : List Int} (h : ∀ k, k < l.length → 0 ≤ l.getD k 0 ∧ l.getD k 0 ≤ 100) : worthsB l = true := by
  rw [worthsB, List.all_eq_true]
  intro x hx
  obtain ⟨i, hi, rfl⟩ := List.getElem_of_mem hx
  have := h i hi
  rw [List.getD_eq_getElem?_getD, List.getElem?_eq_getElem hi] at this
  exact decide_eq_true this
theorem worths_at {l : List Int} (h : worthsB l = true) {k : Nat} (hk : k < l.length) : 0 ≤ l.getD k 0 ∧ l.getD k 0 ≤ 100 := by
  rw [worthsB, List.all_eq_true] at h
  exact of_decide_eq_true (h _ (getD_mem hk))
theorem vB_no {L : List (List Int)} {k : Nat} (hk : k < L.length) (h : rowB (L.getD 0 []).length (L.getD k []) = false) : vB01 L = false := by
  cases hv : vB01 L with
  | false => rfl
  | true =>
    rw [vB01, Bool.and_eq_true, List.all_eq_true] at hv
    rw [hv.2 _ (getD_mem hk)] at h; cases h
theorem vB_yes {L : List (List Int)} (h1 : 1 ≤ L.length ∧ L.length ≤ 4) (h : ∀ k, k < L.length → rowB (L.getD 0 []).length (L.getD k []) = true) : vB01 L = true := by
  rw [vB01, decide_eq_true h1, Bool.true_and, List.all_eq_true]
  intro x hx
  obtain ⟨i, hi, rfl⟩ := List.getElem_of_mem hx
  have := h i hi
  rw [List.getD_eq_getElem?_getD, List.getD_eq_getElem?_getD (l := L) (i := i), List.getElem?_eq_getElem hi] at this
  rw [List.getD_eq_getElem?_getD]
  exact this
theorem rowB_no {m : Nat} {l : List Int} (h : ¬ (l.length = m ∧ 1 ≤ l.length ∧ l.length ≤ 7)) : rowB m l = false := by rw [rowB, decide_eq_false h, Bool.false_and]

set_option maxHeartbeats 800000 in
theorem worths_any (A : Option Addr) (n c B : Nat) (l : List Int) (w : World) (hn : l.length = n) (hlen : n ≤ 9223372036854775807) (hA : IntsA w B A l) :
    Calls Try.prog 47 #[.slice A n c] w fun e w' => e = .returned (.bool (worthsB l)) ∧ w = w' := by
  obtain ⟨r, hr⟩ : ∃ r, worthsB l = r := ⟨_, rfl⟩
  rw [hr]
  have HR := hide hr
  have HN := hide hn
  clear hr hn
  go_enter Try.func47, Try.ntmps47
  go_wp2
  go_loop [7] (fun i => ∃ k : Nat, k ≤ n ∧ i = .int .i64 k ∧ Hid (∀ j, j < k → 0 ≤ l.getD j 0 ∧ l.getD j 0 ≤ 100)) (fun i => n - (intOf i).toNat)
  case atStart => exact ⟨0, Nat.zero_le _, rfl, hide (fun j hj => absurd hj (by omega))⟩
  case round =>
    obtain ⟨k, hk, rfl, HAL⟩ := hrel
    by_cases hlt : k < n
    · obtain ⟨b, o, x, rfl, hb, hc, hx⟩ := hA.at_ (k := k) (by rw [HN.out]; exact hlt)
      have hkn : (k : Int) < (n : Int) := by omega
      by_cases h0 : x < 0
      · have d0 : decide (x < 0) = true := decide_eq_true h0
        have HF : Hid (worthsB l = false) := worths_no (k := k) (by rw [HN.out]; exact hlt) (by rw [hx.out]; omega)
        clear hx
        go_wp2
        go_ret
        exact ⟨by rw [← HR.out, HF.out]; rfl, rfl⟩
      · have d0 : decide (x < 0) = false := decide_eq_false h0
        by_cases h1 : 100 < x
        · have d1 : decide (100 < x) = true := decide_eq_true h1
          have HF : Hid (worthsB l = false) := worths_no (k := k) (by rw [HN.out]; exact hlt) (by rw [hx.out]; omega)
          clear hx
          go_wp2
          go_ret
          exact ⟨by rw [← HR.out, HF.out]; rfl, rfl⟩
        · have d1 : decide (100 < x) = false := decide_eq_false h1
          have HAN : Hid (∀ j, j < k + 1 → 0 ≤ l.getD j 0 ∧ l.getD j 0 ≤ 100) := fun j hj => by
            by_cases e : j = k
            · subst e; rw [hx.out]; omega
            · exact HAL.out j (by omega)
          clear hx
          go_wp2
          go_round
          case rel => exact ⟨k + 1, by omega, by go_num, HAN⟩
          case measure => simp [intOf]; omega
    · obtain rfl : n = k := by omega
      have HF : Hid (worthsB l = true) := worths_yes (fun j hj => HAL.out j (by rw [← HN.out]; exact hj))
      go_wp2
      go_ret
      exact ⟨by rw [← HR.out, HF.out]; rfl, rfl⟩

set_option maxHeartbeats 1600000 in
theorem refV_any (A : Option Addr) (n c B : Nat) (L : List (List Int)) (w : World) (hn : L.length = n) (hlen : n ≤ 9223372036854775807) (hrow : ∀ l ∈ L, l.length ≤ 9223372036854775807) (hA : RowsA w B A L) :
    Calls Try.prog 25 #[.slice A n c] w fun e w' => e = .returned (.bool (vB01 L)) ∧ w = w' := by
  obtain ⟨r, hr⟩ : ∃ r, vB01 L = r := ⟨_, rfl⟩
  rw [hr]
  have HR := hide hr
  have HN := hide hn
  have HRW := hide hrow
  clear hr hn hrow
  by_cases hn1 : 1 ≤ n
  case neg =>
    have d1 : decide ((n : Int) < 1) = true := decide_eq_true (by omega)
    have HF : Hid (vB01 L = false) := by show _ = _; rw [vB01, HN.out, decide_eq_false (by omega), Bool.false_and]
    clear hA
    go_enter Try.func25, Try.ntmps25
    go_wp2
    go_ret
    exact ⟨by rw [← HR.out, HF.out]; rfl, rfl⟩
  have d1 : decide ((n : Int) < 1) = false := decide_eq_false (by omega)
  by_cases hn4 : n ≤ 4
  case neg =>
    have d4 : decide (4 < (n : Int)) = true := decide_eq_true (by omega)
    have HF : Hid (vB01 L = false) := by show _ = _; rw [vB01, HN.out, decide_eq_false (by omega), Bool.false_and]
    clear hA
    go_enter Try.func25, Try.ntmps25
    go_wp2
    go_ret
    exact ⟨by rw [← HR.out, HF.out]; rfl, rfl⟩
  have d4 : decide (4 < (n : Int)) = false := decide_eq_false (by omega)
  obtain ⟨b0, o0, A0, m, c0, rfl, hb0, hc0, hx0, hle0, hI0⟩ := hA.at_ (k := 0) (by rw [HN.out]; omega)
  rw [Nat.add_zero] at hc0
  have hi0 : (0 : Int) < (n : Int) := by omega
  have hm : m ≤ 9223372036854775807 := by rw [← hx0.out]; exact HRW.out _ (getD_mem (by rw [HN.out]; omega))
  have HM := hide hx0.out
  clear hI0 hx0
  go_enter Try.func25, Try.ntmps25
  go_wp2
  go_loop [15] (fun i => ∃ k : Nat, k ≤ n ∧ i = .int .i64 k ∧ Hid (∀ j, j < k → rowB m (L.getD j []) = true)) (fun i => n - (intOf i).toNat)
  case atStart => exact ⟨0, Nat.zero_le _, rfl, hide (fun j hj => absurd hj (by omega))⟩
  case round =>
    obtain ⟨k, hk, rfl, HAL⟩ := hrel
    by_cases hlt : k < n
    · obtain ⟨b, o, A', n', c', e9, hb, hc, hx, hle, hI⟩ := hA.at_ (k := k) (by rw [HN.out]; exact hlt)
      injection e9 with e9; injection e9 with e1 e2
      subst e1; subst e2
      have hkn : (k : Int) < (n : Int) := by omega
      have hn' : n' ≤ 9223372036854775807 := by rw [← hx.out]; exact HRW.out _ (getD_mem (by rw [HN.out]; exact hlt))
      have HX := hide hx.out
      have HWO := hide (worths_any A' n' c' B (L.getD k []) w hx.out hn' hI)
      have HNO : Hid (rowB m (L.getD k []) = false → vB01 L = false) := fun h => vB_no (k := k) (by rw [HN.out]; exact hlt) (by rw [HM.out]; exact h)
      clear hx hI
      by_cases g1 : n' = m
      case neg =>
        have q1 : ((n' : Int) != (m : Int)) = true := by simp; omega
        have HF := hide (HNO.out (rowB_no (by rw [HX.out]; omega)))
        go_wp2
        go_ret
        exact ⟨by rw [← HR.out, HF.out]; rfl, rfl⟩
      subst g1
      have q1 : ((n' : Int) != (n' : Int)) = false := by simp
      by_cases g2 : 1 ≤ n'
      case neg =>
        have q2 : decide ((n' : Int) < 1) = true := decide_eq_true (by omega)
        have HF := hide (HNO.out (rowB_no (by rw [HX.out]; omega)))
        go_wp2
        go_ret
        exact ⟨by rw [← HR.out, HF.out]; rfl, rfl⟩
      have q2 : decide ((n' : Int) < 1) = false := decide_eq_false (by omega)
      by_cases g3 : n' ≤ 7
      case neg =>
        have q3 : decide (7 < (n' : Int)) = true := decide_eq_true (by omega)
        have HF := hide (HNO.out (rowB_no (by rw [HX.out]; omega)))
        go_wp2
        go_ret
        exact ⟨by rw [← HR.out, HF.out]; rfl, rfl⟩
      have q3 : decide (7 < (n' : Int)) = false := decide_eq_false (by omega)
      cases hw : worthsB (L.getD k [])
      · rw [hw] at HWO
        have HF := hide (HNO.out (by rw [rowB, hw, Bool.and_false]))
        clear hw
        go_wp2_with fail
        refine (HWO.out).mono ?_
        rintro e w' ⟨rfl, rfl⟩
        go_wp2
        go_ret
        exact ⟨by rw [← HR.out, HF.out]; rfl, rfl⟩
      · rw [hw] at HWO
        have HAN : Hid (∀ j, j < k + 1 → rowB n' (L.getD j []) = true) := fun j hj => by
          by_cases e : j = k
          · subst e; rw [rowB, hw, HX.out, decide_eq_true (by omega)]; rfl
          · exact HAL.out j (by omega)
        clear hw
        go_wp2_with fail
        refine (HWO.out).mono ?_
        rintro e w' ⟨rfl, rfl⟩
        go_wp2
        go_round
        case rel => exact ⟨k + 1, by omega, by go_num, HAN⟩
        case measure => simp [intOf]; omega
    · obtain rfl : n = k := by omega
      have HF : Hid (vB01 L = true) := vB_yes (by rw [HN.out]; omega) (fun j hj => by rw [HM.out]; exact HAL.out j (by rw [← HN.out]; exact hj))
      go_wp2
      go_ret
      exact ⟨by rw [← HR.out, HF.out]; rfl, rfl⟩
end Go.Proofs.Ytgognkofnegobaa
