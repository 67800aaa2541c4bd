/-
  Sorting jobs by Due with corrody/corrodylaw06.DatesOnTime-1.
-/
import Derived.Test.YtiadineakhcclaaSortOT
import Derived.Test.YtiadineakhcclaaOTSub
import Derived.Test.YtiadineakhcclaaDFitP
namespace Go.Proofs.Ytiadineakhcclaa
open Go.RowKit Go.Deep
set_option linter.unusedVariables false
set_option linter.unusedSimpArgs false

theorem srt_OT (A : Option Addr) (n c bb base : Nat) (L : List J4) (X : Option Addr) (q c1 : Nat) (l0 : List Nat) (w : World) (hn : L.length = n) (hL : JobsOk L) (hq : l0.length = q) (hlow : ∀ k, k < q → l0.getD k 0 < n) (hasc : ∀ a b, a < b → b < q → l0.getD a 0 < l0.getD b 0)
    (hq8 : q ≤ 8) (hA : JobsA w w.heap.size A L) (hAb : ∀ b o, A = some ⟨b, o, none⟩ → b < base) (hbb : bb < base) (hc : w.cell? ⟨bb, 0, none⟩ = some (.slice A n c)) (hown : w.ownsRow base 3 1 (.slice X q c1) q ((up l0).map (Value.int .i64))) :
    Calls Try.prog 45 #[.slice X q c1, .func (.func 53) #[] #[.pointer (some ⟨bb, 0, none⟩)]] w fun e w' => ∃ s : Nat → Nat, Sorted0 (due L) (fun k => l0.getD k 0) s q q ∧ w'.ownsRow base 3 1 (.slice X q c1) q ((up ((List.range q).map s)).map (Value.int .i64)) ∧
      w.grownBy w' (Value.slice X q c1).ownBlock ∧ e = .returned (.tuple #[]) := by
  rcases Nat.eq_zero_or_pos q with h0 | h0
  · subst h0
    refine (sortStable0_SortOT _ X c1 w).mono ?_
    rintro e w' ⟨rfl, rfl⟩
    exact ⟨id, ⟨Nat.le_refl _, fun k hk => by omega, fun k _ hk => by omega, fun a b _ hb => by omega⟩, by rw [List.eq_nil_of_length_eq_zero hq] at hown; exact hown, ⟨rfl, rfl, rfl, Nat.le_refl _, fun _ _ _ => rfl⟩, rfl⟩
  · obtain ⟨g, cc, hX, hg1, hg2, hg3, hg4⟩ := own_form hown h0
    injection hX with hX1 _ hX2
    subst hX1; subst hX2
    have hR : RowO w g q c1 3 (fun k => .int .i64 ((l0.getD k 0 : Nat) : Int)) := (rowO_own hown).congr fun k hk => by
      show Value.int .i64 ((up l0).getD k 0) = _
      rw [up_getD]
    refine (sortStable_SortOT #[.pointer (some ⟨bb, 0, none⟩)] (due L) (fun a b => due L a - due L b) n g q c1 (fun k => l0.getD k 0) w (fun a b => by show due L a - due L b < 0 ↔ _; omega) (by rw [← hn]; exact hL.le) hq8 hlow hasc (fun w' a b hg ha hb => ?_) hR).mono ?_
    · refine sub_OT A n c bb L a b w' hn hL ha hb (fun i hi => ?_) (hg.cell hc (fun e => by have := Option.some.inj e; simp at this; omega))
      obtain ⟨b1, o1, e1, h1, h2, h3, h4, h5⟩ := hA i hi
      have hne : ∀ x, some (⟨b1, x, none⟩ : Addr).block ≠ some g := fun x e => by have := Option.some.inj e; have := hAb b1 o1 e1; simp at *; omega
      exact ⟨b1, o1, e1, Nat.lt_of_lt_of_le h1 hg.size, hg.cell h2 (hne _), hg.cell h3 (hne _), hg.cell h4 (hne _), hg.cell h5 (hne _)⟩
    · rintro e w' ⟨s, h1, h2, h3, rfl⟩
      refine ⟨s, h1, ?_, h3, rfl⟩
      have h5 := h2.own hown
      rw [show (up ((List.range q).map s)).map (Value.int .i64) = (List.range q).map (fun k => Value.int .i64 ((s k : Nat) : Int)) by simp [up]]
      exact h5
end Go.Proofs.Ytiadineakhcclaa
