/-
  swap: wishes.outcome for the rules of trading and of choosing.
-/
import Derived.Test.YtilnbiaabhdfgaaChoose
import Derived.Test.YtilnbiaabhdfgaaTrade
import Derived.Test.YtilnbiaabhdfgaaOwn
import Derived.Test.YtilnbiaabhdfgaaParetoPlain
namespace Go.Proofs.Ytilnbiaabhdfgaa
open Go.RowKit
set_option linter.unusedVariables false
set_option linter.unusedSimpArgs false

/-- A rule, as a function of the wishes. -/
structure OutOk (rule n : Nat) (f : List (List Nat) → List Nat) : Prop where
  call : ∀ (A : Option Addr) (c : Nat) (W : List (List Nat)) (w : World), WOk W n → RowsA w w.heap.size A (upp W) → Calls Try.prog 71 #[.slice A n c, .int .i64 rule] w (OneRow n (f W) w)
  ok : ∀ W, WOk W n → (f W).length = n ∧ ∀ i, i < n → (f W).getD i 0 < n
def firstN (W : List (List Nat)) : List Nat := chooseN W (List.range W.length)

set_option maxHeartbeats 400000 in
theorem out_trading (n : Nat) : OutOk 0 n tradeN := by
  refine ⟨fun A c W w hW hA => ?_, fun W hW => ⟨(tradeN_ord hW).len, fun i hi => (tradeN_ord hW).getD_lt hi⟩⟩
  have h60 : n ≤ 60 := by have := hW.le; omega
  have HM : Hid (Mkt W (List.range n) n) := hW.mkt (ord_range n)
  have HT : Hid (tradeN W = listF n (traded W (List.range n)).1) := by show _ = _; rw [tradeN, hW.len]
  have HA := hide hA
  clear hA hW
  go_enter Try.func71, Try.ntmps71
  go_wp2_with (first
    | (go_at_call 49; refine (own_any A n c w h60).mono ?_; rintro e w2 ⟨H, c', rfl, hI, hb2⟩)
    | (go_at_call 50; refine (trade_any A H n c c' w2.heap.size W (List.range n) w2 h60 (HA.out.next hb2) hI HM.out).mono ?_; rintro e w3 ⟨O, R, co, cr, rfl, hO, hR, hb3, hn1, hn2⟩; have HN1 := hide hn1; have HN2 := hide hn2; clear hn1 hn2))
  go_ret
  exact ⟨O, co, rfl, by rw [HT.out]; exact hO, hb2.trans (hb3.mono hb2.size), fun g hg => by have := HN1.out g hg; have := hb2.size; omega⟩

set_option maxHeartbeats 400000 in
theorem out_choosing (n : Nat) : OutOk 1 n firstN := by
  refine ⟨fun A c W w hW hA => ?_, fun W hW => ?_⟩
  · have h60 : n ≤ 60 := by have := hW.le; omega
    have HW := hide hW
    have HT : Hid (firstN W = chooseN W (List.range n)) := by show _ = _; rw [firstN, hW.len]
    have HA := hide hA
    clear hA hW
    have hfd : ∀ (w : World) (A H : Option Addr) (n c c' : Nat), (Instr.field 52 (.agg #[.slice A n c, .slice H n c']) 1).run Try.prog w = .ok (.slice H n c') w := fun _ _ _ _ _ _ => by kernel_rfl
    go_enter Try.func71, Try.ntmps71
    go_wp2_with (first
      | (go_at_call 49; refine (own_any A n c w h60).mono ?_; rintro e w2 ⟨H, c', rfl, hI, hb2⟩)
      | (go_at_call 54; refine (choose_any A H n c c' w2.heap.size w2.heap.size W (List.range n) w2 h60 HW.out.len HW.out.rows (HA.out.next hb2) (ord_range n) hI).mono ?_; rintro e w3 ⟨O, co, rfl, hO, hb3, hn1⟩; have HN1 := hide hn1; clear hn1))
    go_ret
    exact ⟨O, co, rfl, by rw [HT.out]; exact hO, hb2.trans (hb3.mono hb2.size), fun g hg => by have := HN1.out g hg; have := hb2.size; omega⟩
  · have := chooseN_ord hW (ord_range n)
    rw [firstN, hW.len]
    exact ⟨this.len, fun i hi => this.getD_lt hi⟩
end Go.Proofs.Ytilnbiaabhdfgaa
