/-
  swap: market.onCycle: whether a way of pointing leads back; the function value is a variable.
-/
import Derived.Test.YtgognkofnegobaaProg
import Derived.Test.YtgognkofnegobaaBase
namespace Go.Proofs.Ytgognkofnegobaa
open Go.RowKit
set_option linter.unusedVariables false
set_option linter.unusedSimpArgs false

theorem iter_in {f : Nat → Nat} {S : Nat → Prop} (hS : ∀ j, S j → S (f j)) {i : Nat} (hi : S i) : ∀ k, S (iter f k i)
  | 0 => hi
  | k + 1 => hS _ (iter_in hS hi k)

set_option maxHeartbeats 400000 in
theorem onCycle_any (fid : FuncId) (cap : Array Value) (A : Option Addr) (V : Value) (n c i : Nat) (f : Nat → Nat) (S : Nat → Prop) (w : World) (hgo : Goes Try.prog fid) (hlen : n ≤ 60)
    (hS : ∀ j, S j → S (f j)) (hi : S i)
    (hF : ∀ w', Below w.heap.size w w' → ∀ j, S j → Calls Try.prog fid (#[.int .i64 j] ++ cap) w' fun e w'' => e = .returned (.int .i64 (f j)) ∧ Below w'.heap.size w' w'') :
    Calls Try.prog 72 #[.agg #[.slice A n c, V], .int .i64 i, .func (.func fid) #[] cap] w fun e w' => e = .returned (.bool (onCyc f n i)) ∧ Below w.heap.size w w' := by
  have HF := hide hF
  have HS := hide hS
  have HI := hide hi
  have HR : Hid (∀ k, S (iter f k i)) := iter_in hS hi
  clear hF hS hi
  generalize hr : onCyc f n i = r
  have HO := hide hr
  clear hr
  go_enter Try.func72, Try.ntmps72
  go_wp2_with ((with_reducible show wpList _ _ _ (⟨some 10, _, _, _, _, _⟩ :: _) _ _); refine wpList_callv1 fid cap _ _ _ _ rfl rfl rfl rfl hgo ((HF.out _ ?_ i HI.out).mono ?_); (exact (Below.refl _ _).alloc (Nat.le_refl _) _); rintro e w1 ⟨rfl, hb1⟩; refine ⟨_, rfl, ?_⟩; have c0 : w1.cell? ⟨w.heap.size, 0, none⟩ = some (.slice A n c) := (hb1.cell (by simp)).trans (by rw [World.cell?_alloc_at _ _ _ _ rfl]; rfl); have hbb : Below w.heap.size w w1 := ((Below.refl _ _).alloc (Nat.le_refl _) _).trans (hb1.mono (by simp)))
  clear hb1
  go_loopw [7, 14] (fun at_ k wr => ∃ q : Nat, q ≤ n ∧ k = .int .i64 q ∧ at_ = .int .i64 (iter f (q + 1) i : Nat) ∧ wr.cell? ⟨w.heap.size, 0, none⟩ = some (.slice A n c) ∧ Below w.heap.size w wr ∧
      Hid (∀ j, j < q → iter f (j + 1) i ≠ i)) (fun _ k _ => n - (intOf k).toNat)
  case atStart => exact ⟨0, Nat.zero_le _, rfl, rfl, c0, hbb, fun j hj => absurd hj (by omega)⟩
  case round =>
    obtain ⟨q, hq, rfl, rfl, hc, hbw, hno⟩ := hrel
    clear c0 hbb
    have hwl : w.heap.size < wr.heap.size := cell_lt (p := ⟨w.heap.size, 0, none⟩) hc
    by_cases hlt : q < n
    · generalize hx : iter f (q + 1) i = x
      have HX := hide hx
      clear hx
      have HSx : Hid (S x) := by have := HR.out (q + 1); rw [HX.out] at this; exact this
      by_cases he : x = i
      · have h1 : ((x : Int) == (i : Int)) = true := by simp [he]
        have HE := hide he
        clear he
        go_wp2
        go_ret
        refine ⟨?_, hbw⟩
        have : onCyc f n i = true := by
          simp only [onCyc, List.any_eq_true, List.mem_range, beq_iff_eq]
          exact ⟨q, hlt, by rw [HX.out]; exact HE.out⟩
        rw [← HO.out, this]; rfl
      · have h1 : ((x : Int) == (i : Int)) = false := by simp; omega
        have HE : Hid (x ≠ i) := he
        clear he
        go_wp2_with ((with_reducible show wpList _ _ _ (⟨some 21, _, _, _, _, _⟩ :: _) _ _); refine wpList_callv1 fid cap _ _ _ _ rfl rfl rfl rfl hgo ((HF.out _ hbw x HSx.out).mono ?_); rintro e w1 ⟨rfl, hb1⟩; refine ⟨_, rfl, ?_⟩)
        go_roundw
        case rel =>
          refine ⟨q + 1, by omega, by go_num, ?_, (hb1.cell (p := ⟨w.heap.size, 0, none⟩) hwl).trans hc, hbw.trans (hb1.mono (by omega)), fun j hj => ?_⟩
          · rw [show iter f (q + 1 + 1) i = f (iter f (q + 1) i) from rfl, HX.out]
          · by_cases e : j = q
            · subst e; rw [HX.out]; exact HE.out
            · exact hno.out j (by omega)
        case measure => simp [intOf]; omega
    · go_wp2
      go_ret
      refine ⟨?_, hbw⟩
      have : onCyc f n i = false := by
        simp only [onCyc, List.any_eq_false, List.mem_range, beq_iff_eq]
        intro j hj
        exact hno.out j (by omega)
      rw [← HO.out, this]; rfl
end Go.Proofs.Ytgognkofnegobaa
