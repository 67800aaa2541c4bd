/-
  The function corrody/corrodylaw06.DatesOnTime-1: the one Due less the other.
-/
import Derived.Test.YtiadineakhcclaaDMem
import Derived.Test.YtiadineakhcclaaDCmp
namespace Go.Proofs.Ytiadineakhcclaa
open Go.RowKit Go.Deep
set_option linter.unusedVariables false
set_option linter.unusedSimpArgs false

theorem goes_OT : Goes Try.prog 53 := goes_of Try.func53 (by kernel_rfl) (by kernel_rfl)
set_option maxHeartbeats 800000 in
theorem sub_OT (A : Option Addr) (n c bb : Nat) (L : List J4) (a b : Nat) (w : World) (hn : L.length = n) (hL : JobsOk L) (ha : a < n) (hb : b < n) (hA : JobsA w w.heap.size A L) (hc : w.cell? ⟨bb, 0, none⟩ = some (.slice A n c)) :
    Calls Try.prog 53 (#[.int .i64 (a : Nat), .int .i64 (b : Nat)] ++ #[.pointer (some ⟨bb, 0, none⟩)]) w fun e w' => e = .returned (.int .i64 ((L.getD a j0).d - (L.getD b j0).d)) ∧ ∃ m, w' = w.drewN m := by
  have hlen : n ≤ 8 := by rw [← hn]; exact hL.le
  have hJa := hL.at_ a (by omega)
  have hJb := hL.at_ b (by omega)
  obtain ⟨q, o, t1, r1, d1, u1, rfl, hb1, ha0, ha1, ha2, ha3, hx1⟩ := hA.at_ (k := a) (by omega)
  obtain ⟨q', o', t2, r2, d2, u2, e, hb2, hc0, hc1, hc2, hc3, hx2⟩ := hA.at_ (k := b) (by omega)
  injection e with e; injection e with e1 e2
  subst e1; subst e2
  rw [hx1.out] at hJa ⊢
  rw [hx2.out] at hJb ⊢
  show Calls _ _ _ _ fun e w' => e = .returned (.int .i64 (d1 - d2)) ∧ ∃ m, w' = w.drewN m
  simp only [] at hJa hJb
  have hd1 : 0 ≤ d1 ∧ d1 ≤ 200 := by omega
  have hd2 : 0 ≤ d2 ∧ d2 ≤ 200 := by omega
  have hsub : IntKind.i64.wrap (d1 - d2) = d1 - d2 := by rw [IntKind.wrap_i64]; omega
  have h1 : (a : Int) < (n : Int) := by omega
  have h2 : (b : Int) < (n : Int) := by omega
  clear hA hx1 hx2 hn ha0 ha1 ha3 hc0 hc1 hc3 hL hJa hJb
  go_enter Try.func53, Try.ntmps53
  go_wp2
  go_quiet (fail)
  go_wp2
  go_ret
  exact ⟨rfl, _, rfl⟩
end Go.Proofs.Ytiadineakhcclaa
