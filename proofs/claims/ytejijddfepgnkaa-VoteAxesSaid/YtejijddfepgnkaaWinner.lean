/-
  vote: ballots.winner: the rule's own function.
-/
import Derived.Test.YtejijddfepgnkaaValidVote
import Derived.WalkSpells
import Derived.Deep.DeepCutAuto
namespace Go.Proofs.Ytejijddfepgnkaa
open Go.RowKit
set_option linter.unusedVariables false
set_option linter.unusedSimpArgs false

def ruleFn : Nat → FuncId
  | 0 => 92
  | 1 => 93
  | 2 => 94
  | _ => 95
theorem goes_rule0 : Goes Try.prog 92 := goes_of Try.func92 (by kernel_rfl) (by kernel_rfl)
theorem goes_rule1 : Goes Try.prog 93 := goes_of Try.func93 (by kernel_rfl) (by kernel_rfl)
theorem goes_rule2 : Goes Try.prog 94 := goes_of Try.func94 (by kernel_rfl) (by kernel_rfl)
theorem goes_rule3 : Goes Try.prog 95 := goes_of Try.func95 (by kernel_rfl) (by kernel_rfl)

set_option maxRecDepth 100000 in
set_option maxHeartbeats 1600000 in
theorem winner_any (A : Option Addr) (v c r : Nat) (x : Int) (w : World) (hr : r ≤ 3)
    (hC : Calls Try.prog (ruleFn r) #[.slice A v c] w fun e w' => e = .returned (.int .i64 x) ∧ Below w.heap.size w w') :
    Calls Try.prog 61 #[.slice A v c, .int .i64 (r : Nat)] w fun e w' => e = .returned (.int .i64 x) ∧ Below w.heap.size w w' := by
  rcases (by omega : r = 0 ∨ r = 1 ∨ r = 2 ∨ r = 3) with rfl | rfl | rfl | rfl
  · have HC : Hid (Calls Try.prog 92 (#[.slice A v c] ++ #[]) w fun e w' => e = .returned (.int .i64 x) ∧ Below w.heap.size w w') := hC
    clear hC
    have hix : ∀ w, (Instr.index 97 (.agg #[.func (.func 92) #[] #[], .func (.func 93) #[] #[], .func (.func 94) #[] #[], .func (.func 95) #[] #[]]) (.int .i64 0)).run Try.prog w = .ok (.func (.func 92) #[] #[]) w := fun w => by kernel_rfl
    go_enter Try.func61, Try.ntmps61
    go_wp2_with ((with_reducible show wpList _ _ _ (⟨some 9, _, _, _, _, _⟩ :: _) _ _); refine wpList_callv1 92 #[] _ _ _ _ rfl rfl rfl rfl goes_rule0 (HC.out.mono ?_); rintro e w' ⟨rfl, hb⟩; have HB := hide hb; clear hb; refine ⟨_, rfl, ?_⟩)
    go_ret
    exact ⟨rfl, HB.out⟩
  · have HC : Hid (Calls Try.prog 93 (#[.slice A v c] ++ #[]) w fun e w' => e = .returned (.int .i64 x) ∧ Below w.heap.size w w') := hC
    clear hC
    have hix : ∀ w, (Instr.index 97 (.agg #[.func (.func 92) #[] #[], .func (.func 93) #[] #[], .func (.func 94) #[] #[], .func (.func 95) #[] #[]]) (.int .i64 1)).run Try.prog w = .ok (.func (.func 93) #[] #[]) w := fun w => by kernel_rfl
    go_enter Try.func61, Try.ntmps61
    go_wp2_with ((with_reducible show wpList _ _ _ (⟨some 9, _, _, _, _, _⟩ :: _) _ _); refine wpList_callv1 93 #[] _ _ _ _ rfl rfl rfl rfl goes_rule1 (HC.out.mono ?_); rintro e w' ⟨rfl, hb⟩; have HB := hide hb; clear hb; refine ⟨_, rfl, ?_⟩)
    go_ret
    exact ⟨rfl, HB.out⟩
  · have HC : Hid (Calls Try.prog 94 (#[.slice A v c] ++ #[]) w fun e w' => e = .returned (.int .i64 x) ∧ Below w.heap.size w w') := hC
    clear hC
    have hix : ∀ w, (Instr.index 97 (.agg #[.func (.func 92) #[] #[], .func (.func 93) #[] #[], .func (.func 94) #[] #[], .func (.func 95) #[] #[]]) (.int .i64 2)).run Try.prog w = .ok (.func (.func 94) #[] #[]) w := fun w => by kernel_rfl
    go_enter Try.func61, Try.ntmps61
    go_wp2_with ((with_reducible show wpList _ _ _ (⟨some 9, _, _, _, _, _⟩ :: _) _ _); refine wpList_callv1 94 #[] _ _ _ _ rfl rfl rfl rfl goes_rule2 (HC.out.mono ?_); rintro e w' ⟨rfl, hb⟩; have HB := hide hb; clear hb; refine ⟨_, rfl, ?_⟩)
    go_ret
    exact ⟨rfl, HB.out⟩
  · have HC : Hid (Calls Try.prog 95 (#[.slice A v c] ++ #[]) w fun e w' => e = .returned (.int .i64 x) ∧ Below w.heap.size w w') := hC
    clear hC
    have hix : ∀ w, (Instr.index 97 (.agg #[.func (.func 92) #[] #[], .func (.func 93) #[] #[], .func (.func 94) #[] #[], .func (.func 95) #[] #[]]) (.int .i64 3)).run Try.prog w = .ok (.func (.func 95) #[] #[]) w := fun w => by kernel_rfl
    go_enter Try.func61, Try.ntmps61
    go_wp2_with ((with_reducible show wpList _ _ _ (⟨some 9, _, _, _, _, _⟩ :: _) _ _); refine wpList_callv1 95 #[] _ _ _ _ rfl rfl rfl rfl goes_rule3 (HC.out.mono ?_); rintro e w' ⟨rfl, hb⟩; have HB := hide hb; clear hb; refine ⟨_, rfl, ?_⟩)
    go_ret
    exact ⟨rfl, HB.out⟩

/-- Win of valid ballots by a rule from 0 to 3. -/
theorem Win_yes (A : Option Addr) (v c r : Nat) (L : List (List Int)) (x : Int) (w : World) (hn : L.length = v) (hA : RowsA w w.heap.size A L) (hv : votesB L = true) (hr : r ≤ 3)
    (hC : ∀ w', Below w.heap.size w w' → Calls Try.prog (ruleFn r) #[.slice A v c] w' fun e w'' => e = .returned (.int .i64 x) ∧ Below w'.heap.size w' w'') :
    Calls Try.prog 22 #[.slice A v c, .int .i64 (r : Nat)] w fun e w' => e = .returned (.tuple #[.int .i64 x, .int .i64 0]) ∧ Below w.heap.size w w' := by
  obtain ⟨⟨h1, h9⟩, ⟨m1, m5⟩, hall⟩ : (1 ≤ L.length ∧ L.length ≤ 9) ∧ (1 ≤ (L.getD 0 []).length ∧ (L.getD 0 []).length ≤ 5) ∧ ∀ l ∈ L, ordB l (L.getD 0 []).length = true := by
    simp only [votesB, Bool.and_eq_true, decide_eq_true_eq, List.all_eq_true, and_assoc] at hv
    exact ⟨⟨hv.1, hv.2.1⟩, ⟨hv.2.2.1, hv.2.2.2.1⟩, hv.2.2.2.2⟩
  have HV := hide (valid_any A v c w.heap.size L w hn (by omega) (fun l hl => by have := (ordB_iff.1 (hall l hl)).1; omega) hA)
  rw [hv] at HV
  have HC := hide (fun w' (hw' : Below w.heap.size w w') => winner_any A v c r x w' hr (hC w' hw'))
  clear hC hv hA hall hn
  have h0 : ¬ ((r : Int) < 0) := by omega
  have h3 : ¬ ((3 : Int) < (r : Int)) := by omega
  go_enter Try.func22, Try.ntmps22
  go_wp2_with (first
    | (go_at_call 62; refine (HV.out).mono ?_; rintro e w1 ⟨rfl, hb⟩; have HB := hide hb; clear hb)
    | (go_at_call 61; refine (HC.out _ HB.out).mono ?_; rintro e w2 ⟨rfl, hb⟩; have HB2 := hide hb; clear hb))
  go_ret2
  exact ⟨rfl, HB.out.trans (HB2.out.mono HB.out.size)⟩
end Go.Proofs.Ytejijddfepgnkaa
