/-
  The reference's Objects.
-/
import Derived.Test.YtilnbiaabhdfgaaRefBetter
import Derived.Test.YtilnbiaabhdfgaaRefObjects
namespace Go.Proofs.Ytilnbiaabhdfgaa
open Go.RowKit
set_option linter.unusedVariables false
set_option linter.unusedSimpArgs false


set_option maxRecDepth 100000 in
set_option maxHeartbeats 1600000 in
theorem refObjects_any (A X : Option Addr) (n c cx : Nat) (W : List (List Nat)) (o : List Nat) (w : World) (hW : WOk W n) (hA : RowsA w w.heap.size A (upp W)) (ho : Ord o n) (hX : IntsA w w.heap.size X (up o)) :
    Calls Try.prog 44 #[.slice A n c, .slice X n cx] w (ObjRes (objectsN W n o) w) := by
  have h5 := hW.le
  have HOK := hide hW
  have HOL := hide ho
  have HA := hide hA
  have HX := hide hX
  have hp32 : (2 : Nat) ^ n ≤ 2 ^ 5 := Nat.pow_le_pow_right (by decide) h5
  have hsh := shl_one n (by omega)
  obtain ⟨P, hP⟩ : ∃ P, 2 ^ n = P := ⟨_, rfl⟩
  rw [hP] at hsh hp32
  have HPP := hide hP
  have HSH := hide hsh
  obtain ⟨r, hr⟩ : ∃ r, objectsN W n o = r := ⟨_, rfl⟩
  rw [hr]
  have HR := hide hr
  clear hW ho hA hX hr hP hsh
  go_enter Try.func44, Try.ntmps44
  go_wp2
  go_loopw [6] (fun s wr => ∃ k : Nat, 1 ≤ k ∧ k ≤ n + 1 ∧ s = .int .i64 k ∧ Below w.heap.size w wr ∧ Hid (∀ k', k' + 1 < k → objIn W n o (k' + 1) = none)) (fun s _ => n + 1 - (intOf s).toNat)
  case atStart => exact ⟨1, Nat.le_refl _, by omega, rfl, Below.refl _ _, fun k' h => by omega⟩
  case round =>
    obtain ⟨k, hk1, hk, rfl, hwr, hno⟩ := hrel
    by_cases hlt : k ≤ n
    · have hle : decide ((k : Int) ≤ (n : Int)) = true := decide_eq_true (by omega)
      go_wp2
      go_loopw [17] (fun i wi => ∃ M : Nat, M ≤ P ∧ i = .int .i64 M ∧ Below w.heap.size w wi ∧ Hid (∀ M', M' < M → objHit W n o k M' = false)) (fun i _ => P - (intOf i).toNat)
      case atStart => exact ⟨0, Nat.zero_le _, rfl, hwr, fun M' h => by omega⟩
      case round =>
        obtain ⟨M, hM, rfl, hwi, hnoM⟩ := hrel
        by_cases hltM : M < P
        · have hltM' : M < 2 ^ n := by rw [HPP.out]; exact hltM
          have hdl : decide ((M : Int) < wrap64 (2 ^ n)) = true := by rw [HSH.out]; exact decide_eq_true (by omega)
          have HON := hide (size_any M (by omega) wr)
          have HOB := hide (robjects_any A X n c cx M W o wr HOK.out hltM' (HA.out.next hwi) HOL.out (HX.out.next hwi))
          have HH : Hid (objHit W n o k M = (decide (cardF 5 M = k) && objectsB W n M o)) := rfl
          have hca : cardF 5 M ≤ 5 := cardF_le 5 M
          generalize cardF 5 M = ca at *
          generalize objectsB W n M o = ob at *
          by_cases hc : ca = k
          · have hcb : ((ca : Int) == (k : Int)) = true := by simp; omega
            rw [decide_eq_true hc] at HH
            clear hc
            cases ob
            · go_wp2_with (first
                | (go_at_call 69; refine (HON.out).mono ?_; rintro e w2 ⟨rfl, rfl⟩)
                | (go_at_call 70; refine (HOB.out).mono ?_; rintro e w2 ⟨rfl, hb2⟩))
              go_roundw
              case rel =>
                refine ⟨M + 1, by omega, by go_num, hwi.trans (hb2.mono hwi.size), fun M' h => ?_⟩
                by_cases e : M' = M
                · rw [e, HH.out]; rfl
                · exact hnoM.out M' (by omega)
              case measure => simp [intOf] <;> omega
            · have hr : r = some M := by
                rw [← HR.out]
                exact objectsN_some (k := k - 1) (by omega) (by rw [show k - 1 + 1 = k from by omega]; exact objIn_some hltM' (by rw [HH.out]; rfl) hnoM.out) (fun k' h => hno.out k' (by omega))
              subst hr
              go_wp2_with (first
                | (go_at_call 69; refine (HON.out).mono ?_; rintro e w2 ⟨rfl, rfl⟩)
                | (go_at_call 70; refine (HOB.out).mono ?_; rintro e w2 ⟨rfl, hb2⟩))
              go_ret2
              exact ⟨rfl, hwi.trans (hb2.mono hwi.size)⟩
          · have hcb : ((ca : Int) == (k : Int)) = false := by simp; omega
            rw [decide_eq_false hc] at HH
            clear hc
            go_wp2_with (first
              | (go_at_call 69; refine (HON.out).mono ?_; rintro e w2 ⟨rfl, rfl⟩))
            go_roundw
            case rel =>
              refine ⟨M + 1, by omega, by go_num, hwi, fun M' h => ?_⟩
              by_cases e : M' = M
              · rw [e, HH.out]; rfl
              · exact hnoM.out M' (by omega)
            case measure => simp [intOf] <;> omega
        · obtain rfl : M = P := by omega
          have hdl : decide ((M : Int) < wrap64 (2 ^ n)) = false := by rw [HSH.out]; exact decide_eq_false (by omega)
          go_wp2
          go_roundw
          case rel =>
            refine ⟨k + 1, by omega, by omega, by go_num, hwi, fun k' h => ?_⟩
            by_cases e : k' + 1 = k
            · rw [e]; exact objIn_none (by rw [HPP.out]; exact hnoM.out)
            · exact hno.out k' (by omega)
          case measure => simp [intOf] <;> omega
    · have hle : decide ((k : Int) ≤ (n : Int)) = false := decide_eq_false (by omega)
      have hr : r = none := by rw [← HR.out]; exact objectsN_none (fun k' h => hno.out k' (by omega))
      subst hr
      go_wp2
      go_ret2
      exact ⟨rfl, hwr⟩
end Go.Proofs.Ytilnbiaabhdfgaa
