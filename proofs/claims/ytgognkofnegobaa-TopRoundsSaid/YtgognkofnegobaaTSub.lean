/-
  The function TopRounds-1: what one good is worth less what another is.
-/
import Derived.Test.YtgognkofnegobaaProg
import Derived.Test.YtgognkofnegobaaBase
import Derived.BigQuiet
namespace Go.Proofs.Ytgognkofnegobaa
open Go.RowKit Go.Deep
set_option linter.unusedVariables false
set_option linter.unusedSimpArgs false

theorem goes_tsub : Goes Try.prog 27 := goes_of Try.func27 (by kernel_rfl) (by kernel_rfl)
set_option maxHeartbeats 800000 in
theorem tsub_any (A : Option Addr) (n c bb B : Nat) (l : List Int) (a b : Nat) (w : World) (hn : l.length = n) (hl : ∀ g, g < n → 0 ≤ l.getD g 0 ∧ l.getD g 0 ≤ 100) (ha : a < n) (hb : b < n) (hA : IntsA w B A l) (hc : w.cell? ⟨bb, 0, none⟩ = some (.slice A n c)) :
    Calls Try.prog 27 (#[.int .i64 (a : Nat), .int .i64 (b : Nat)] ++ #[.pointer (some ⟨bb, 0, none⟩)]) w fun e w' => e = .returned (.int .i64 (l.getD b 0 - l.getD a 0)) ∧ ∃ m, w' = w.drewN m := by
  obtain ⟨q, o, x, rfl, hb1, hx, hx1⟩ := hA.at_ (k := a) (by omega)
  obtain ⟨q', o', y, e, hb2, hy, hy1⟩ := hA.at_ (k := b) (by omega)
  injection e with e; injection e with e1 e2
  subst e1; subst e2
  have hbx := hl a ha
  have hby := hl b hb
  rw [hx1.out] at hbx ⊢
  rw [hy1.out] at hby ⊢
  have hsub : IntKind.i64.wrap (y - x) = y - x := by rw [IntKind.wrap_i64]; omega
  have h1 : (a : Int) < (n : Int) := by omega
  have h2 : (b : Int) < (n : Int) := by omega
  clear hA hx1 hy1 hn hl hbx hby
  go_enter Try.func27, Try.ntmps27
  go_wp2
  go_quiet (fail)
  go_wp2
  go_ret
  exact ⟨rfl, _, rfl⟩
end Go.Proofs.Ytgognkofnegobaa
