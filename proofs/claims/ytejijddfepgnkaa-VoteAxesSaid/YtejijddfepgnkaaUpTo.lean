/-
  vote: upTo and names.
-/
import Derived.Test.YtejijddfepgnkaaMarginPlain
import Derived.Test.YtejijddfepgnkaaInfo
namespace Go.Proofs.Ytejijddfepgnkaa
open Go.RowKit
set_option linter.unusedVariables false
set_option linter.unusedSimpArgs false

theorem up_range_succ' (k : Nat) : (up (List.range (k + 1))).map (Value.int .i64) = (up (List.range k)).map (Value.int .i64) ++ [Value.int .i64 (k : Int)] := by
  simp [up, List.range_succ]
set_option maxHeartbeats 400000 in
theorem upTo_any (n : Nat) (w : World) (hn : n ≤ 60) :
    Calls Try.prog 59 #[.int .i64 n] w fun e w' => ∃ H c', e = .returned (.slice H n c') ∧ n ≤ c' ∧ w'.ownsRow w.heap.size 3 1 (.slice H n c') n ((up (List.range n)).map (Value.int .i64)) ∧ Below w.heap.size w w' := by
  go_enter Try.func59, Try.ntmps59
  go_wp2
  go_loopw [3, 7] (fun v i wr => ∃ (k c' : Nat) (H : Option Addr), k ≤ n ∧ i = .int .i64 k ∧ v = .slice H k c' ∧ k ≤ c' ∧ wr.ownsRow w.heap.size 3 1 (.slice H k c') k ((up (List.range k)).map (Value.int .i64)) ∧ Below w.heap.size w wr)
    (fun _ i _ => n - (intOf i).toNat)
  case atStart => exact ⟨0, 0, some ⟨w.heap.size, 0, none⟩, Nat.zero_le _, rfl, rfl, Nat.le_refl _, ⟨rfl, .inr ⟨w.heap.size, 0, #[], rfl, Nat.le_refl _, alloc_new _ _ _ rfl, Nat.le_refl _, by decide, rfl, rfl⟩⟩, (Below.refl _ _).alloc (Nat.le_refl _) _⟩
  case round =>
    obtain ⟨k, c', H, hk, rfl, rfl, hkc, hown, hbel⟩ := hrel
    have HOW := hide hown
    clear hown
    by_cases hlt : k < n
    · go_wp2_with ((at_builtin); refine wpList_app1 (w0 := wr) _ _ 23 3 (.int .i64 0) 8 rfl rfl Try.underlying23 info_int rfl w.heap.size (.slice H k c') k _ (.int .i64 (k : Int)) rfl rfl rfl ⟨_, rfl⟩ HOW.out rfl (by omega) (by omega) (by have := hbel.size; omega) ?_; intro g cg w1 hown1 hc1 hc1m hg1 hgl hgrow; have HOW1 := hide hown1; have HG := hide hgrow; clear hown1 hgrow)
      go_roundw
      case rel =>
        refine ⟨k + 1, cg, some ⟨g, 0, none⟩, by omega, by go_num, rfl, hc1, ?_, hbel.grown HG.out hbel.size (fun q hq => (own_lt HOW.out q hq).1)⟩
        rw [up_range_succ']; exact HOW1.out
      case measure => simp [intOf]; omega
    · obtain rfl : n = k := by omega
      go_wp2
      go_ret
      exact ⟨H, c', rfl, hkc, HOW.out, hbel⟩

set_option maxHeartbeats 400000 in
theorem names_any (A : Option Addr) (v n c B : Nat) (W : List (List Nat)) (w : World) (hW : BOk W v n) (hA : RowsA w B A (upp W)) :
    Calls Try.prog 60 #[.slice A v c] w fun e w' => e = .returned (.int .i64 n) ∧ w = w' := by
  obtain ⟨b0, o0, A0, m, c0, rfl, hb0, hc0, hx0, hle0, hI0⟩ := hA.at_ (k := 0) (by rw [upp_length, hW.len]; exact hW.pos)
  rw [Nat.add_zero] at hc0
  rw [upp_getD] at hx0
  obtain rfl : n = m := by have := hx0.out; rw [up_length, (hW.rows 0 hW.pos).len] at this; exact this
  have h1 := hW.pos
  have hi0 : (0 : Int) < (v : Int) := by omega
  clear hx0 hI0 hA hW
  go_enter Try.func60, Try.ntmps60
  go_wp2
  go_ret
  exact ⟨rfl, rfl⟩
end Go.Proofs.Ytejijddfepgnkaa
