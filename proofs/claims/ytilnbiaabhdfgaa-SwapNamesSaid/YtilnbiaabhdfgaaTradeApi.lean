/-
  swap.Trade and swap.Rounds.
-/
import Derived.Test.YtilnbiaabhdfgaaValid
import Derived.Test.YtilnbiaabhdfgaaOwn
import Derived.Test.YtilnbiaabhdfgaaTrade
namespace Go.Proofs.Ytilnbiaabhdfgaa
open Go.RowKit
set_option linter.unusedVariables false
set_option linter.unusedSimpArgs false

set_option maxHeartbeats 400000 in
theorem Trade_no (A : Option Addr) (n c B : Nat) (L : List (List Int)) (w : World) (hn : L.length = n) (hlen : n ≤ 9223372036854775807) (hrow : ∀ l ∈ L, l.length ≤ 9223372036854775807) (hA : RowsA w B A L) (hv : validB L = false) :
    Calls Try.prog 19 #[.slice A n c] w fun e w' => e = .returned (.tuple #[.slice none 0 0, .int .i64 2]) ∧ Below w.heap.size w w' := by
  have HV := hide (valid_any A n c B L w hn hlen hrow hA)
  rw [hv] at HV
  clear hv hrow hn
  go_enter Try.func19, Try.ntmps19
  go_wp2_with (go_at_call 48; refine (HV.out).mono ?_; rintro e w1 ⟨rfl, hb1⟩)
  go_ret2
  exact ⟨rfl, hb1⟩

set_option maxHeartbeats 400000 in
theorem Rounds_no (A : Option Addr) (n c B : Nat) (L : List (List Int)) (w : World) (hn : L.length = n) (hlen : n ≤ 9223372036854775807) (hrow : ∀ l ∈ L, l.length ≤ 9223372036854775807) (hA : RowsA w B A L) (hv : validB L = false) :
    Calls Try.prog 23 #[.slice A n c] w fun e w' => e = .returned (.tuple #[.slice none 0 0, .int .i64 2]) ∧ Below w.heap.size w w' := by
  have HV := hide (valid_any A n c B L w hn hlen hrow hA)
  rw [hv] at HV
  clear hv hrow hn
  go_enter Try.func23, Try.ntmps23
  go_wp2_with (go_at_call 48; refine (HV.out).mono ?_; rintro e w1 ⟨rfl, hb1⟩)
  go_ret2
  exact ⟨rfl, hb1⟩

theorem rows_short {L : List (List Int)} (hv : validB L = true) : L.length ≤ 5 ∧ ∀ l ∈ L, l.length ≤ 9223372036854775807 := by
  obtain ⟨⟨_, h5⟩, hr⟩ := validB_iff.1 hv
  exact ⟨h5, fun l hl => by have := (ordB_iff.1 (hr l hl)).1; omega⟩

set_option maxHeartbeats 400000 in
theorem Trade_yes (A : Option Addr) (n c B : Nat) (L : List (List Int)) (w : World) (hn : L.length = n) (hA : RowsA w B A L) (hv : validB L = true) :
    Calls Try.prog 19 #[.slice A n c] w fun e w' => ∃ O co, e = .returned (.tuple #[.slice O n co, .int .i64 0]) ∧ IntsA w' w'.heap.size O (up (tradeN (toNN L))) ∧ Below w.heap.size w w' := by
  obtain ⟨h5, hrow⟩ := rows_short hv
  obtain ⟨hu, hok⟩ := valid_ok hv
  have HV := hide (valid_any A n c B L w hn (by omega) hrow hA)
  rw [hv] at HV
  have HA : Hid (RowsA w w.heap.size A (upp (toNN L))) := by rw [hu]; exact hA.top
  have HM : Hid (Mkt (toNN L) (List.range n) n) := by rw [← hn]; exact hok.mkt (ord_range _)
  have HT : Hid (tradeN (toNN L) = listF n (traded (toNN L) (List.range n)).1) := by show _ = _; rw [tradeN, hok.len, hn]
  have h60 : n ≤ 60 := by omega
  clear hv hrow hn hu hok hA h5
  go_enter Try.func19, Try.ntmps19
  go_wp2_with (first
    | (go_at_call 48; refine (HV.out).mono ?_; rintro e w1 ⟨rfl, hb1⟩)
    | (go_at_call 49; refine (own_any A n c w1 h60).mono ?_; rintro e w2 ⟨H, c', rfl, hI, hb2⟩)
    | (go_at_call 50; refine (trade_any A H n c c' w2.heap.size (toNN L) (List.range n) w2 h60 ((HA.out.next hb1).next hb2) hI HM.out).mono ?_; rintro e w3 ⟨O, R, co, cr, rfl, hO, hR, hb3, hn1, hn2⟩; have HN1 := hide hn1; have HN2 := hide hn2; clear hn1 hn2))
  go_ret2
  refine ⟨O, co, rfl, by rw [HT.out]; exact hO, (hb1.trans (hb2.mono hb1.size)).trans (hb3.mono ?_)⟩
  have := hb1.size; have := hb2.size; omega

set_option maxHeartbeats 400000 in
theorem Rounds_yes (A : Option Addr) (n c B : Nat) (L : List (List Int)) (w : World) (hn : L.length = n) (hA : RowsA w B A L) (hv : validB L = true) :
    Calls Try.prog 23 #[.slice A n c] w fun e w' => ∃ O co, e = .returned (.tuple #[.slice O n co, .int .i64 0]) ∧ IntsA w' w'.heap.size O (up (roundsN (toNN L))) ∧ Below w.heap.size w w' := by
  obtain ⟨h5, hrow⟩ := rows_short hv
  obtain ⟨hu, hok⟩ := valid_ok hv
  have HV := hide (valid_any A n c B L w hn (by omega) hrow hA)
  rw [hv] at HV
  have HA : Hid (RowsA w w.heap.size A (upp (toNN L))) := by rw [hu]; exact hA.top
  have HM : Hid (Mkt (toNN L) (List.range n) n) := by rw [← hn]; exact hok.mkt (ord_range _)
  have HT : Hid (roundsN (toNN L) = listF n (traded (toNN L) (List.range n)).2) := by show _ = _; rw [roundsN, hok.len, hn]
  have h60 : n ≤ 60 := by omega
  clear hv hrow hn hu hok hA h5
  go_enter Try.func23, Try.ntmps23
  go_wp2_with (first
    | (go_at_call 48; refine (HV.out).mono ?_; rintro e w1 ⟨rfl, hb1⟩)
    | (go_at_call 49; refine (own_any A n c w1 h60).mono ?_; rintro e w2 ⟨H, c', rfl, hI, hb2⟩)
    | (go_at_call 50; refine (trade_any A H n c c' w2.heap.size (toNN L) (List.range n) w2 h60 ((HA.out.next hb1).next hb2) hI HM.out).mono ?_; rintro e w3 ⟨O, R, co, cr, rfl, hO, hR, hb3, hn1, hn2⟩; have HN1 := hide hn1; have HN2 := hide hn2; clear hn1 hn2))
  go_ret2
  refine ⟨R, cr, rfl, by rw [HT.out]; exact hR, (hb1.trans (hb2.mono hb1.size)).trans (hb3.mono ?_)⟩
  have := hb1.size; have := hb2.size; omega
end Go.Proofs.Ytilnbiaabhdfgaa
