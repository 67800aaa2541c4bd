/-
  slices.Clone at []int: the copy is memory of the caller's own.
-/
import Derived.Test.YtejijddfepgnkaaEqual
namespace Go.Proofs.Ytejijddfepgnkaa
open Go.RowKit
set_option linter.unusedVariables false
set_option linter.unusedSimpArgs false

set_option maxHeartbeats 400000 in
theorem clone_own (A : Option Addr) (n c B : Nat) (l : List Int) (w : World) (hn : l.length = n) (hlen : n * 8 ≤ 140737488355328) (hA : IntsA w B A l) :
    Calls Try.prog 63 #[.slice A n c] w fun e w' => ∃ A' c', e = .returned (.slice A' n c') ∧ n ≤ c' ∧ IntsA w' w'.heap.size A' l ∧ (A' = none ↔ A = none) ∧ Below w.heap.size w w' ∧
      (∀ g, (Value.slice A' n c').ownBlock = some g → w.heap.size ≤ g) ∧ w'.ownsRow w.heap.size 3 1 (.slice A' n c') n (l.map (Value.int .i64)) := by
  have hq := fun (w : World) (a : Option Addr) (n c n' c' : Nat) => Lib.run_eql_slice_nil (P := Try.prog) w 23 _ a n c n' c' Try.underlying23
  cases A with
  | none =>
    have h0 : l = [] := by
      cases l with
      | nil => rfl
      | cons x l => obtain ⟨b, o, e, _⟩ := hA 0 (by simp); cases e
    subst h0
    subst hn
    go_enter Try.func63, Try.ntmps63
    go_wp2
    go_ret
    exact ⟨none, 0, rfl, Nat.le_refl _, IntsA.nil_, by simp, Below.refl _ _, fun g hg => by simp [Value.ownBlock] at hg, World.ownsRow_nil _ _ _ _⟩
  | some ad =>
    have hI : IntsA (w.alloc (.cells #[] 3)) w.heap.size (some ad) l := (hA.top).keep fun p hp => World.cell?_alloc_lt _ _ _ hp
    have HN := hide hn
    clear hn
    go_enter Try.func63, Try.ntmps63
    have hown : (w.alloc (.cells #[] 3)).ownsRow w.heap.size 3 1 (.slice (some ⟨w.heap.size, 0, none⟩) 0 0) 0 [] :=
      ⟨rfl, .inr ⟨w.heap.size, 0, #[], rfl, Nat.le_refl _, alloc_new _ _ _ rfl, Nat.le_refl _, by decide, rfl, rfl⟩⟩
    have HO := hide hown
    clear hown
    go_wp2_with ((at_builtin); refine wpList_appInts _ _ 23 3 (.int .i64 0) 8 rfl rfl Try.underlying23 info_int rfl w.heap.size (.slice (some ⟨w.heap.size, 0, none⟩) 0 0) 0 [] rfl ad n c w.heap.size l rfl HN.out hI HO.out (by omega) (by omega) (by simp) ?_; intro A' c' w1 hown1 hc1 hc2 hgrow hblk hnil; have HOW := hide hown1; have HG := hide hgrow; have HBL := hide hblk; have HNI := hide hnil; clear hown1 hgrow hblk hnil)
    go_ret
    have hlow : ∀ g, (Value.slice A' (0 + n) c').ownBlock = some g → w.heap.size ≤ g := fun g hg => by
      rcases HBL.out with h | h
      · rw [h] at hg; simp [Value.ownBlock] at hg; omega
      · rw [h] at hg; simp at hg; omega
    refine ⟨A', c', ?_, by omega, ints_of_own (by simpa using HOW.out), ?_, ?_, ?_, by simpa using HOW.out⟩
    · rfl
    · constructor
      · intro h; have := HNI.out h; cases this
      · intro h; cases h
    · exact ((Below.refl _ _).alloc (Nat.le_refl _) _).grown HG.out (by simp) (fun g hg => by simp [Value.ownBlock] at hg; omega)
    · intro g hg; rw [← Nat.zero_add n] at hg; exact hlow g hg
end Go.Proofs.Ytejijddfepgnkaa
