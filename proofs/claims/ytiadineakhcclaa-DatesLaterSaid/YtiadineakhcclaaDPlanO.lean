/-
  dates: Plan: the pieces are memory of the caller's own.
-/
import Derived.Test.YtiadineakhcclaaPlanDO
namespace Go.Proofs.Ytiadineakhcclaa
open Go.RowKit Go.Deep
set_option linter.unusedVariables false
set_option linter.unusedSimpArgs false

theorem own_low {w : World} {base base' n size : Nat} {e : TypeId} {v : Value} {xs : List Value} (h : w.ownsRow base e size v n xs) (hb : base' ≤ base) : w.ownsRow base' e size v n xs := by
  refine ⟨h.1, ?_⟩
  rcases h.2 with h2 | ⟨g, cap, cur, hv, hg, r⟩
  · exact .inl h2
  · exact .inr ⟨g, cap, cur, hv, Nat.le_trans hb hg, r⟩
set_option maxHeartbeats 800000 in
theorem dueO_any (A : Option Addr) (n c : Nat) (L : List J4) (w : World) (hn : L.length = n) (hL : JobsOk L) (hA : JobsA w w.heap.size A L) :
    Calls Try.prog 59 #[.slice A n c] w fun e w' => ∃ X m c', e = .returned (.slice X m c') ∧ (planN false L).length = m ∧ m ≤ c' ∧ w'.ownsRow (w.heap.size + 1) 44 3 (.slice X m c') m (pcells (planN false L)) ∧ Below w.heap.size w w' := by
  have HP := hide (planDO_any A n c L w hn hL hA)
  clear hn hL hA
  go_enter Try.func59, Try.ntmps59
  go_wp2_with (go_at_call 55; refine (HP.out).mono ?_; rintro e w' ⟨X, m, c', rfl, h1, h2, h3, h4⟩; have H1 := hide h1; have H3 := hide h3; have H4 := hide h4; clear h1 h3 h4)
  go_ret
  exact ⟨X, m, c', rfl, H1.out, h2, H3.out, H4.out⟩
set_option maxHeartbeats 800000 in
theorem planO_yes (A : Option Addr) (n c : Nat) (L : List J4) (w : World) (hn : L.length = n) (hlen : n ≤ 9223372036854775807) (hA : JobsA w w.heap.size A L) (hv : jobsB L = true) :
    Calls Try.prog 24 #[.slice A n c] w fun e w' => ∃ X m c', e = .returned (.tuple #[.slice X m c', .int .i64 0]) ∧ (planN false L).length = m ∧ m ≤ c' ∧ w'.ownsRow (w.heap.size + 1) 44 3 (.slice X m c') m (pcells (planN false L)) ∧ Below w.heap.size w w' := by
  have HV := hide (jvalid_any A n c L w hn hlen hA)
  rw [hv] at HV
  have HD := hide (fun w1 (hb : Below w.heap.size w w1) => dueO_any A n c L w1 hn (jobsB_iff.1 hv) (hA.next hb))
  clear hv hA hn
  go_enter Try.func24, Try.ntmps24
  go_wp2_with (first
    | (go_at_call 54; refine (HV.out).mono ?_; rintro e w1 ⟨rfl, hb1⟩; have HB1 := hide hb1; clear hb1)
    | (go_at_call 59; refine (HD.out _ HB1.out).mono ?_; rintro e w2 ⟨X, m, c', rfl, h1, h2, h3, h4⟩; have H1 := hide h1; have H3 := hide (own_low h3 (Nat.succ_le_succ HB1.out.size)); have H4 := hide h4; clear h1 h3 h4))
  go_ret2
  exact ⟨X, m, c', rfl, H1.out, h2, H3.out, HB1.out.trans (H4.out.mono HB1.out.size)⟩
end Go.Proofs.Ytiadineakhcclaa
