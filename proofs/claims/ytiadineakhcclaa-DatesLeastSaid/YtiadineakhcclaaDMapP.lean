/-
  dates: the map of what is known.
-/
import Derived.Test.YtiadineakhcclaaProg
import Derived.Test.YtiadineakhcclaaDMem
import Derived.Test.YtiadineakhcclaaDLeastP
import Derived.Maps.OwnSet
import Derived.Maps.OwnOps
import Derived.Maps.AppendAt
namespace Go.Proofs.Ytiadineakhcclaa
open Go.RowKit Go.Deep Go.Maps
set_option linter.unusedVariables false
set_option linter.unusedSimpArgs false

theorem mlaw : Keyed Try.prog 3 := int_keyed Try.underlying3
theorem mzero (w : World) : (zeroValue 3).run Try.prog w = .ok (.int .i64 0) w := by kernel_rfl
theorem mkey (S : Nat) (h : S < 2 ^ 60) : keyOf Try.prog 3 (.int .i64 (S : Nat)) = some (.int .i64 (S : Nat)) := keyOf_int_mk Try.underlying3 (WalkArith.wf_i64 (by omega))

/-- Block b is a map of at most c entries; what it holds at a set is right. -/
def KnownM (w : World) (b : Nat) (W : Nat → Option Int) (c : Nat) : Prop :=
  ∃ D : DataW Unit, w.ownsMap Try.prog 3 (plainElem Try.prog 3) b c D ∧ IsMap D ∧ ∀ S : Nat, Maps.has D (.int .i64 (S : Nat)) = true → ∃ x : Int, D.atKey (.int .i64 (S : Nat)) (.lit (.int .i64 0)) = .lit (.int .i64 x) ∧ W S = some x
theorem KnownM.made (w : World) (W : Nat → Option Int) : KnownM (w.alloc (.map #[] 0)) w.heap.size W 0 :=
  ⟨.map [], World.ownsMap_made _ _ _ _, ⟨[], rfl⟩, fun S h => by simp [Maps.has] at h⟩
theorem KnownM.kept {w w' : World} {b : Nat} {W : Nat → Option Int} {c : Nat} (h : KnownM w b W c) {row : Option Nat} (hg : w.grownBy w' row) (hne : some b ≠ row) : KnownM w' b W c :=
  let ⟨D, h1, h2, h3⟩ := h
  ⟨D, h1.kept hg hne, h2, h3⟩
theorem KnownM.alloc {w : World} {b : Nat} {W : Nat → Option Int} {c : Nat} (h : KnownM w b W c) (o : Obj) : KnownM (w.alloc o) b W c :=
  let ⟨D, h1, h2, h3⟩ := h
  ⟨D, h1.alloc o, h2, h3⟩
theorem KnownM.drewN {w : World} {b : Nat} {W : Nat → Option Int} {c : Nat} (h : KnownM w b W c) (q : Nat) : KnownM (w.drewN q) b W c :=
  h.kept (row := none) ⟨rfl, rfl, rfl, Nat.le_refl _, fun _ _ _ => rfl⟩ (by simp)
theorem KnownM.lt {w : World} {b : Nat} {W : Nat → Option Int} {c : Nat} (h : KnownM w b W c) : b < w.heap.size :=
  let ⟨D, h1, _, _⟩ := h
  h1.lt
theorem known_put {w' : World} {b c : Nat} {D : DataW Unit} {W : Nat → Option Int} {S : Nat} {x : Int} (hown : w'.ownsMap Try.prog 3 (plainElem Try.prog 3) b (c + 1) (D.put (.int .i64 (S : Nat)) (.lit (.int .i64 x)))) (hm : IsMap D)
    (hD : ∀ S : Nat, Maps.has D (.int .i64 (S : Nat)) = true → ∃ x : Int, D.atKey (.int .i64 (S : Nat)) (.lit (.int .i64 0)) = .lit (.int .i64 x) ∧ W S = some x) (hW : W S = some x) : KnownM w' b W (c + 1) := by
  refine ⟨_, hown, hm.put _ _, fun T hT => ?_⟩
  by_cases e : T = S
  · subst e
    exact ⟨x, atKey_put_same hm (by trivial) _ _, hW⟩
  · have hne : (Lit.int .i64 (T : Nat) : Lit) ≠ .int .i64 (S : Nat) := fun h => e (by injection h with _ h; omega)
    rw [has_put_other hne] at hT
    obtain ⟨y, h1, h2⟩ := hD T hT
    exact ⟨y, by rw [atKey_put_other hne]; exact h1, h2⟩
/-- What is known of a set of n jobs. -/
def knownW (L : List J4) (B : Nat → Nat) (S : Nat) : Option Int := worstF L B (L.length - cardF L.length S) S
/-- The worst's loop over the time of a set. -/
def atT (L : List J4) (S : Nat) : Nat → Int := sumF (fun i => if S.testBit i = true then (L.getD i j0).t else 0)
theorem atT_bd {L : List J4} (hL : JobsOk L) (S : Nat) : ∀ k, k ≤ L.length → 0 ≤ atT L S k ∧ atT L S k ≤ 20 * k
  | 0, _ => ⟨Int.le_refl _, by simp [atT, sumF]⟩
  | k + 1, hk => by
      have h1 := atT_bd hL S k (by omega)
      have h2 := hL.at_ k (by omega)
      have e : atT L S (k + 1) = atT L S k + if S.testBit k = true then (L.getD k j0).t else 0 := rfl
      rw [e]
      split <;> (push_cast; omega)
theorem grown_jobs {w w' : World} {row : Option Nat} {B : Nat} {A : Option Addr} {L : List J4} (hA : JobsA w B A L) (hg : w.grownBy w' row) (hne : ∀ b o, A = some ⟨b, o, none⟩ → some b ≠ row) : JobsA w' w'.heap.size A L := fun i hi => by
  obtain ⟨b, o, e, hb, h1, h2, h3, h4⟩ := hA i hi
  have hn : ∀ x, some (⟨b, x, none⟩ : Addr).block ≠ row := fun x => hne b o e
  exact ⟨b, o, e, Nat.lt_of_lt_of_le (cell_lt h1) hg.size, hg.cell h1 (hn _), hg.cell h2 (hn _), hg.cell h3 (hn _), hg.cell h4 (hn _)⟩
theorem grown_ints {w w' : World} {row : Option Nat} {B : Nat} {A : Option Addr} {l : List Int} (hA : IntsA w B A l) (hg : w.grownBy w' row) (hne : ∀ b o, A = some ⟨b, o, none⟩ → some b ≠ row) : IntsA w' w'.heap.size A l := fun i hi => by
  obtain ⟨b, o, e, hb, h1⟩ := hA i hi
  exact ⟨b, o, e, Nat.lt_of_lt_of_le (cell_lt h1) hg.size, hg.cell h1 (hne b o e)⟩
end Go.Proofs.Ytiadineakhcclaa
