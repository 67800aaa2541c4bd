/-
  swap.Trade (top).
-/
import Derived.Test.YtgognkofnegobaaValid
import Derived.Test.YtgognkofnegobaaOwn
import Derived.Test.YtgognkofnegobaaTrade
import Derived.Test.YtgognkofnegobaaChoose
namespace Go.Proofs.Ytgognkofnegobaa
open Go.RowKit
set_option linter.unusedVariables false
set_option linter.unusedSimpArgs false

set_option maxHeartbeats 400000 in
theorem Trade_no (A : Option Addr) (n c B : Nat) (L : List (List Int)) (w : World) (hn : L.length = n) (hlen : n ≤ 9223372036854775807) (hrow : ∀ l ∈ L, l.length ≤ 9223372036854775807) (hA : RowsA w B A L) (hv : validB L = false) :
    Calls Try.prog 18 #[.slice A n c] w fun e w' => e = .returned (.tuple #[.slice none 0 0, .int .i64 2]) ∧ Below w.heap.size w w' := by
  have HV := hide (valid_any A n c B L w hn hlen hrow hA)
  rw [hv] at HV
  clear hv hrow hn
  go_enter Try.func18, Try.ntmps18
  go_wp2_with (go_at_call 38; refine (HV.out).mono ?_; rintro e w1 ⟨rfl, hb1⟩)
  go_ret2
  exact ⟨rfl, hb1⟩

set_option maxHeartbeats 400000 in
theorem rows_short {L : List (List Int)} (hv : validB L = true) : L.length ≤ 5 ∧ ∀ l ∈ L, l.length ≤ 9223372036854775807 := by
  obtain ⟨⟨_, h5⟩, hr⟩ := validB_iff.1 hv
  exact ⟨h5, fun l hl => by have := (ordB_iff.1 (hr l hl)).1; omega⟩

set_option maxHeartbeats 400000 in
theorem Trade_yes (A : Option Addr) (n c B : Nat) (L : List (List Int)) (w : World) (hn : L.length = n) (hA : RowsA w B A L) (hv : validB L = true) :
    Calls Try.prog 18 #[.slice A n c] w fun e w' => ∃ O co, e = .returned (.tuple #[.slice O n co, .int .i64 0]) ∧ IntsA w' w'.heap.size O (up (tradeN (toNN L))) ∧ Below w.heap.size w w' := by
  obtain ⟨h5, hrow⟩ := rows_short hv
  obtain ⟨hu, hok⟩ := valid_ok hv
  have HV := hide (valid_any A n c B L w hn (by omega) hrow hA)
  rw [hv] at HV
  have HA : Hid (RowsA w w.heap.size A (upp (toNN L))) := by rw [hu]; exact hA.top
  have HM : Hid (Mkt (toNN L) (List.range n) n) := by rw [← hn]; exact hok.mkt (ord_range _)
  have HT : Hid (tradeN (toNN L) = listF n (traded (toNN L) (List.range n)).1) := by show _ = _; rw [tradeN, hok.len, hn]
  have h60 : n ≤ 60 := by omega
  clear hv hrow hn hu hok hA h5
  go_enter Try.func18, Try.ntmps18
  go_wp2_with (first
    | (go_at_call 38; refine (HV.out).mono ?_; rintro e w1 ⟨rfl, hb1⟩)
    | (go_at_call 39; refine (own_any A n c w1 h60).mono ?_; rintro e w2 ⟨H, c', rfl, hI, hb2⟩)
    | (go_at_call 40; refine (trade_any A H n c c' w2.heap.size (toNN L) (List.range n) w2 h60 ((HA.out.next hb1).next hb2) hI HM.out).mono ?_; rintro e w3 ⟨O, R, co, cr, rfl, hO, hR, hb3, hn1, hn2⟩; have HN1 := hide hn1; have HN2 := hide hn2; clear hn1 hn2))
  go_ret2
  refine ⟨O, co, rfl, by rw [HT.out]; exact hO, (hb1.trans (hb2.mono hb1.size)).trans (hb3.mono ?_)⟩
  have := hb1.size; have := hb2.size; omega

set_option maxHeartbeats 400000 in
/-- A row of n ints and OK. -/
def RowOk (n : Nat) (l : List Nat) (w : World) (e : Ending) (w' : World) : Prop :=
  ∃ O co, e = .returned (.tuple #[.slice O n co, .int .i64 0]) ∧ IntsA w' w'.heap.size O (up l) ∧ Below w.heap.size w w'

set_option maxHeartbeats 400000 in
theorem Choose_yes (A X : Option Addr) (n c cm B B' : Nat) (L : List (List Int)) (l : List Int) (w : World) (hn : L.length = n) (hA : RowsA w B A L) (hX : IntsA w B' X l) (hv : validB L = true) (ho : ordB l n = true) :
    Calls Try.prog 23 #[.slice A n c, .slice X n cm] w (RowOk n (chooseN (toNN L) (toN l)) w) := by
  obtain ⟨h5, hrow⟩ := rows_short hv
  obtain ⟨hu, hok⟩ := valid_ok hv
  obtain ⟨hul, hol⟩ := ord_of ho
  have hm : l.length = n := by rw [← hul, up_length]; exact hol.len
  rw [hn] at hok h5
  have HV := hide (valid_any A n c _ L _ hn (by omega) hrow hA)
  rw [hv] at HV
  have HA : Hid (RowsA w w.heap.size A (upp (toNN L))) := by rw [hu]; exact hA.top
  have hX1 := hX.top
  have HX : Hid (IntsA w w.heap.size X (up (toN l))) := by rw [hul]; exact hX1
  have HOK := hide hok
  have HM := hide hm
  have HO := hide ho
  have HOL := hide hol
  clear hv hrow hn hu hA hok hul hol hm ho hX
  go_enter Try.func23, Try.ntmps23
  go_wp2_with (first
    | (go_at_call 38; refine (HV.out).mono ?_; rintro e w1 ⟨rfl, hb1⟩; have HI := hide (isOrder_any X n cm w1.heap.size n l w1 HM.out (by omega) (by omega) (hX1.next hb1)); rw [HO.out] at HI)
    | (go_at_call 42; refine (HI.out).mono ?_; rintro e w2 ⟨rfl, rfl⟩)
    | (go_at_call 43; refine (choose_any A X n c cm w1.heap.size w1.heap.size (toNN L) (toN l) w1 (by omega) HOK.out.len HOK.out.rows (HA.out.next hb1) HOL.out (HX.out.next hb1)).mono ?_; rintro e w3 ⟨O, co, rfl, hO, hb3, _⟩))
  go_ret2
  exact ⟨O, co, rfl, hO, hb1.trans (hb3.mono hb1.size)⟩
end Go.Proofs.Ytgognkofnegobaa
