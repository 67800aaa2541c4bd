/-
  The reference's Trade and Rounds.
-/
import Derived.Test.YtilnbiaabhdfgaaRefTraded
namespace Go.Proofs.Ytilnbiaabhdfgaa
open Go.RowKit
set_option linter.unusedVariables false
set_option linter.unusedSimpArgs false

set_option maxHeartbeats 400000 in
theorem refTrade_any (A : Option Addr) (n c B : Nat) (W : List (List Nat)) (w : World) (hok : WOk W n) (hA : RowsA w B A (upp W)) :
    Calls Try.prog 26 #[.slice A n c] w (OneRow n (tradeN W) w) := by
  have HM : Hid (Mkt W (List.range n) n) := hok.mkt (ord_range _)
  have HT : Hid (tradeN W = listF n (traded W (List.range n)).1) := by show _ = _; rw [tradeN, hok.len]
  have h60 : n ≤ 60 := by have := hok.le; omega
  have HA : Hid (RowsA w w.heap.size A (upp W)) := hA.top
  clear hok hA
  go_enter Try.func26, Try.ntmps26
  go_wp2_with (first
    | (go_at_call 52; refine (refSelf_any n w h60).mono ?_; rintro e w1 ⟨H, c', rfl, hc, hI, hb1⟩)
    | (go_at_call 51; refine (refTraded_any A H n c c' w1.heap.size W (List.range n) w1 h60 (HA.out.next hb1) hI HM.out).mono ?_; rintro e w2 ⟨O, R, co, cr, rfl, hO, hR, hb2, hn1, hn2⟩; have HN1 := hide hn1; have HN2 := hide hn2; clear hn1 hn2))
  go_ret
  exact ⟨O, co, rfl, by rw [HT.out]; exact hO, hb1.trans (hb2.mono hb1.size), fun g hg => Nat.le_trans hb1.size (HN1.out g hg)⟩

set_option maxHeartbeats 400000 in
theorem refRounds_any (A : Option Addr) (n c B : Nat) (W : List (List Nat)) (w : World) (hok : WOk W n) (hA : RowsA w B A (upp W)) :
    Calls Try.prog 27 #[.slice A n c] w (OneRow n (roundsN W) w) := by
  have HM : Hid (Mkt W (List.range n) n) := hok.mkt (ord_range _)
  have HT : Hid (roundsN W = listF n (traded W (List.range n)).2) := by show _ = _; rw [roundsN, hok.len]
  have h60 : n ≤ 60 := by have := hok.le; omega
  have HA : Hid (RowsA w w.heap.size A (upp W)) := hA.top
  clear hok hA
  go_enter Try.func27, Try.ntmps27
  go_wp2_with (first
    | (go_at_call 52; refine (refSelf_any n w h60).mono ?_; rintro e w1 ⟨H, c', rfl, hc, hI, hb1⟩)
    | (go_at_call 51; refine (refTraded_any A H n c c' w1.heap.size W (List.range n) w1 h60 (HA.out.next hb1) hI HM.out).mono ?_; rintro e w2 ⟨O, R, co, cr, rfl, hO, hR, hb2, hn1, hn2⟩; have HN1 := hide hn1; have HN2 := hide hn2; clear hn1 hn2))
  go_ret
  exact ⟨R, cr, rfl, by rw [HT.out]; exact hR, hb1.trans (hb2.mono hb1.size), fun g hg => Nat.le_trans hb1.size (HN2.out g hg)⟩
end Go.Proofs.Ytilnbiaabhdfgaa
