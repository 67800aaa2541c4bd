/-
  The closure of DatesBest; the plans are best.
-/
import Derived.Test.YtiadineakhcclaaDRefs
import Derived.Test.YtiadineakhcclaaDOverP
import Derived.Test.YtiadineakhcclaaDSrpt
namespace Go.Proofs.Ytiadineakhcclaa
open Go.RowKit Go.Deep
set_option linter.unusedVariables false
set_option linter.unusedSimpArgs false

theorem sumT_F (e : List Int) : ∀ n, sumT e n = sumF (fun i => e.getD i 0) n
  | 0 => rfl
  | n + 1 => by rw [sumT, sumF, sumT_F e n]
theorem plan_best {L : List J4} (hL : JobsOk L) {p : List P3} (h : WholeP L p) : delN L (planN false L) ≤ rdelTo L (finN L.length p) L.length := by
  obtain ⟨x, hx, hd⟩ := delN_at hL (planN false L)
  obtain ⟨a, ha, hb⟩ := edf hL x hx
  have hxb := hL.at_ x hx
  refine Int.not_lt.1 fun hlt => ?_
  have hall : ∀ k, k ≤ L.length → ∀ j, j < k → (finN L.length p).getD j 0 - (L.getD j j0).d ≤ rdelTo L (finN L.length p) k := fun k => by
    induction k with
    | zero => intro _ j hj; omega
    | succ k ih =>
      intro hk j hj
      rw [rdelTo]
      by_cases e : j = k
      · subst e; omega
      · have := ih (by omega) j (by omega); omega
  have h1 := whole_fits hL h (S := inStretch L a (L.getD x j0).d) (a := a) (E := (finN L.length (planN false L)).getD x 0 - 1) (fun j hj hS => (of_decide_eq_true hS : _ ∧ _).1) (fun j hj hS => by
    have h2 := (of_decide_eq_true hS : _ ∧ _).2
    have h3 := hall _ (Nat.le_refl _) j hj
    omega)
  have h4 := sumS_ge (S := inStretch L a (L.getD x j0).d) (f := fun i => (L.getD i j0).t) (n := L.length) (fun i hi _ => by have := hL.at_ i hi; omega) L.length (Nat.le_refl _) x hx (decide_eq_true ⟨ha, Int.le_refl _⟩)
  have h5 : (L.getD x j0).t ≤ loadN L a (L.getD x j0).d := h4
  have h6 : loadN L a (L.getD x j0).d ≤ max 0 ((finN L.length (planN false L)).getD x 0 - 1 - a) := h1
  omega
theorem goes_worst : Goes Try.prog 39 := goes_of Try.func39 (by kernel_rfl) (by kernel_rfl)
set_option maxHeartbeats 1600000 in
theorem worst_any (A : Option Addr) (n c : Nat) (L : List J4) (Z : Option Addr) (zc b : Nat) (en : List Int) (w : World) (hn : L.length = n) (hL : JobsOk L) (hen : en.length = n) (hbd : ∀ i, 0 ≤ en.getD i 0 ∧ en.getD i 0 ≤ 1000) (hA : JobsA w w.heap.size A L) (hZ : IntsA w w.heap.size Z en) (hc : w.cell? ⟨b, 0, none⟩ = some (.slice A n c)) :
    Calls Try.prog 39 (#[.slice Z n zc] ++ #[.pointer (some ⟨b, 0, none⟩)]) w fun e w' => e = .returned (.tuple #[.int .i64 (rdelTo L en n), .int .i64 (sumT en n)]) ∧ w = w' := by
  have h8 : n ≤ 8 := by rw [← hn]; exact hL.le
  have HN := hide hn
  have HL := hide hL
  have HEN := hide hen
  have HBD := hide hbd
  have HA := hide hA
  have HZ := hide hZ
  clear hn hL hen hbd hA hZ
  go_enter Try.func39, Try.ntmps39
  go_wp2
  go_loop [5, 6, 11] (fun v5 v6 v11 => ∃ (k : Nat) (y z : Int), k ≤ n ∧ v11 = .int .i64 k ∧ v5 = .int .i64 y ∧ v6 = .int .i64 z ∧ 0 ≤ z ∧ z ≤ 1000 * k ∧ Hid (y = rdelTo L en k) ∧ Hid (z = sumT en k)) (fun _ _ v => n - (intOf v).toNat)
  case atStart => exact ⟨0, _, 0, Nat.zero_le _, rfl, rfl, rfl, by omega, by omega, hide rfl, hide rfl⟩
  case round =>
    obtain ⟨k, y, z, hk, rfl, rfl, rfl, hz0, hz1, HY, HS⟩ := hrel
    by_cases hlt : k < n
    · obtain ⟨b1, o1, x, rfl, hb1, hc1, hx⟩ := HZ.out.at_ (k := k) (by rw [HEN.out]; exact hlt)
      obtain ⟨bj, oj, t, r, d, u, rfl, hbj, hj0, hj1, hj2, hj3, hxj⟩ := HA.out.at_ (k := k) (by rw [HN.out]; exact hlt)
      have hkn : (k : Int) < (n : Int) := by omega
      have hxb := HBD.out k
      rw [hx.out] at hxb
      obtain ⟨hxb0, hxb1⟩ := hxb
      have hdb := HL.out.at_ k (by rw [HN.out]; exact hlt)
      rw [hxj.out] at hdb
      simp only [] at hdb
      obtain ⟨_, _, _, _, hdb0, hdb1, _, _⟩ := hdb
      have HYN : Hid ((if y < x - d then x - d else y) = rdelTo L en (k + 1)) := by
        have e : (if y < x - d then x - d else y) = max y (x - d) := by split <;> omega
        rw [e, rdelTo, ← HY.out, hx.out, hxj.out]; exact hide rfl
      have HSN : Hid (z + x = sumT en (k + 1)) := by rw [sumT, ← HS.out, hx.out]; exact hide rfl
      clear hx hxj
      go_wp2
      go_round
      case rel => exact ⟨k + 1, _, _, by omega, by go_num, rfl, rfl, by omega, by omega, HYN, HSN⟩
      case measure => simp [intOf] <;> omega
    · obtain rfl : n = k := by omega
      have e1 := HY.out
      have e2 := HS.out
      subst e1; subst e2
      go_wp2
      go_ret2
      exact ⟨rfl, rfl⟩
end Go.Proofs.Ytiadineakhcclaa
