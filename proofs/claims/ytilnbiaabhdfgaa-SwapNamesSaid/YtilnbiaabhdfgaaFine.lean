/-
  What Choose, Better, Order answer to the beginning of what came in.
-/
import Derived.Test.YtilnbiaabhdfgaaFewApi
import Derived.Test.YtilnbiaabhdfgaaOrder
import Derived.Test.YtilnbiaabhdfgaaTallyApi
import Derived.Test.YtilnbiaabhdfgaaRefValid
namespace Go.Proofs.Ytilnbiaabhdfgaa
open Go.RowKit
set_option linter.unusedVariables false
set_option linter.unusedSimpArgs false

/-- Wishes and an outcome are valid. -/
def fineB (L : List (List Int)) (l : List Int) : Bool := validB L && ordB l L.length
theorem fine_parts {L : List (List Int)} {l : List Int} : fineB L l = true ↔ validB L = true ∧ ordB l L.length = true := by simp [fineB]
theorem fine_no {L : List (List Int)} {l : List Int} (h : fineB L l = false) : validB L = false ∨ validB L = true ∧ ordB l L.length = false := by
  cases hv : validB L
  · exact .inl rfl
  · exact .inr ⟨rfl, by simpa [fineB, hv] using h⟩
theorem few_fine (L : List (List Int)) (l : List Int) : fineB (fewL L) (l.take 7) = fineB L l := by
  unfold fineB
  rw [few_valid]
  cases hv : validB L
  · rfl
  · rw [few_same hv, take_ord (validB_iff.1 hv).1.2]
theorem fine_same {L : List (List Int)} {l : List Int} (h : fineB L l = true) : fewL L = L ∧ l.take 7 = l := by
  obtain ⟨h1, h2⟩ := fine_parts.1 h
  exact ⟨few_same h1, take_same (validB_iff.1 h1).1.2 h2⟩
theorem take_len (l : List Int) : (l.take 7).length ≤ 9223372036854775807 := by simp only [List.length_take]; omega

section
variable {w : World} {A X : Option Addr} {n c m cm q q2 : Nat} {L : List (List Int)} {l : List Int}
theorem list_in (hm : l.length = m) (hmc : m ≤ cm) (hlm : m ≤ 9223372036854775807) (hq : (l.take 7).length = q2) (hX : IntsA w w.heap.size X l) :
    ∀ w', Below w.heap.size w w' → Calls Try.prog 34 #[.slice X m cm] w' fun e w'' => ∃ A' c', e = .returned (.slice A' q2 c') ∧ q2 ≤ c' ∧ IntsA w'' w''.heap.size A' (l.take 7) ∧ Below w'.heap.size w' w'' := fun w' hw' => by
  rw [← hq]
  exact (list_any X m cm w.heap.size l w' hm hmc hlm (hX.below hw')).mono fun e w'' ⟨A', c', h1, h2, h3, h4, _⟩ => ⟨A', c', h1, h2, h3, h4⟩
theorem valid_in (hn : L.length = n) (hlen : n ≤ 9223372036854775807) (hrow : ∀ l ∈ L, l.length ≤ 9223372036854775807) (hA : RowsA w w.heap.size A L) :
    ∀ w', Below w.heap.size w w' → Calls Try.prog 24 #[.slice A n c] w' fun e w'' => e = .returned (.bool (validB L)) ∧ w' = w'' :=
  fun w' hw' => refValid_any A n c _ L w' hn hlen hrow (hA.below hw')
theorem order_in {k : Nat} (hm : l.length = m) (hlm : m ≤ 9223372036854775807) (hk : k ≤ 9223372036854775807) (hX : IntsA w w.heap.size X l) :
    ∀ w', Below w.heap.size w w' → Calls Try.prog 36 #[.slice X m cm, .int .i64 k] w' fun e w'' => e = .returned (.bool (ordB l k)) ∧ w' = w'' :=
  fun w' hw' => refIsOrder_any X m cm w.heap.size k l w' hm hlm hk (hX.below hw')
set_option maxHeartbeats 400000 in
theorem fine_in (hn : L.length = n) (hlen : n ≤ 9223372036854775807) (hrow : ∀ l ∈ L, l.length ≤ 9223372036854775807) (hA : RowsA w w.heap.size A L) (hm : l.length = m) (hlm : m ≤ 9223372036854775807) (hX : IntsA w w.heap.size X l) :
    ∀ w', Below w.heap.size w w' → Calls Try.prog 40 #[.slice A n c, .slice X m cm] w' fun e w'' => e = .returned (.bool (fineB L l)) ∧ w' = w'' := by
  intro w' hw'
  have HV := hide (valid_in (c := c) hn hlen hrow hA w' hw')
  have HI := hide (order_in (cm := cm) (k := n) hm hlm hlen hX w' hw')
  have hf : fineB L l = (validB L && ordB l n) := by rw [fineB, hn]
  rw [hf]
  clear hf hrow hA hX hn hm
  generalize validB L = v at *
  generalize ordB l n = u at *
  cases v
  · go_enter Try.func40, Try.ntmps40
    go_wp2_with (go_at_call 24; refine (HV.out).mono ?_; rintro e w1 ⟨rfl, rfl⟩)
    go_ret
    exact ⟨rfl, rfl⟩
  · go_enter Try.func40, Try.ntmps40
    go_wp2_with (first
      | (go_at_call 24; refine (HV.out).mono ?_; rintro e w1 ⟨rfl, rfl⟩)
      | (go_at_call 36; refine (HI.out).mono ?_; rintro e w1 ⟨rfl, rfl⟩))
    go_ret
    exact ⟨by simp, rfl⟩
end

section
variable {q q2 n : Nat} {L : List (List Int)} {l : List Int}
theorem few_no (hq : (fewL L).length = q) (h : fineB L l = false) : validB (fewL L) = false ∨ validB (fewL L) = true ∧ ordB (l.take 7) q = false := by
  rw [← few_fine, ] at h
  have := fine_no h
  rwa [hq] at this
theorem fewBetter_no (hq : (fewL L).length = q) (hq2 : (l.take 7).length = q2) (h : fineB L l = false) (A' X' : Option Addr) (c' cx : Nat) (w1 : World) (hA : RowsA w1 w1.heap.size A' (fewL L)) (hX : IntsA w1 w1.heap.size X' (l.take 7)) :
    Calls Try.prog 38 #[.slice A' q c', .slice X' q2 cx] w1 fun e w' => e = .returned (.tuple #[.slice none 0 0, .int .i64 2]) ∧ Below w1.heap.size w1 w' :=
  Better_no A' X' q c' q2 cx _ _ (fewL L) (l.take 7) w1 hq (by rw [← hq]; exact few_len L) (few_rows L) hA hq2 (by rw [← hq2]; exact take_len l) hX (few_no hq h)
theorem fewOrder_no (hq : (fewL L).length = q) (hq2 : (l.take 7).length = q2) (h : fineB L l = false) (A' X' : Option Addr) (c' cx : Nat) (w1 : World) (hA : RowsA w1 w1.heap.size A' (fewL L)) (hX : IntsA w1 w1.heap.size X' (l.take 7)) :
    Calls Try.prog 39 #[.slice A' q c', .slice X' q2 cx] w1 fun e w' => e = .returned (.tuple #[.slice none 0 0, .int .i64 2]) ∧ Below w1.heap.size w1 w' :=
  Order_no A' X' q c' q2 cx _ _ (fewL L) (l.take 7) w1 hq (by rw [← hq]; exact few_len L) (few_rows L) hA hq2 (by rw [← hq2]; exact take_len l) hX (few_no hq h)
theorem fewChoose_no (hq : (fewL L).length = q) (hq2 : (l.take 7).length = q2) (h : fineB L l = false) (A' X' : Option Addr) (c' cx : Nat) (w1 : World) (hA : RowsA w1 w1.heap.size A' (fewL L)) (hX : IntsA w1 w1.heap.size X' (l.take 7)) :
    Calls Try.prog 33 #[.slice A' q c', .slice X' q2 cx] w1 fun e w' => e = .returned (.tuple #[.slice none 0 0, .int .i64 2]) ∧ Below w1.heap.size w1 w' :=
  Choose_no A' X' q c' q2 cx _ _ (fewL L) (l.take 7) w1 hq (by rw [← hq]; exact few_len L) (few_rows L) hA hq2 (by rw [← hq2]; exact take_len l) hX (few_no hq h)
theorem fewGiven_no (hq : (fewL L).length = q) (hv : validB L = false) (A' : Option Addr) (c' : Nat) (w1 : World) (h : RowsA w1 w1.heap.size A' (fewL L)) :
    Calls Try.prog 30 #[.slice A' q c'] w1 fun e w' => e = .returned (.tuple #[.slice none 0 0, .int .i64 2]) ∧ Below w1.heap.size w1 w' :=
  Given_no A' q c' _ (fewL L) w1 hq (by rw [← hq]; exact few_len L) (few_rows L) h (by rw [few_valid]; exact hv)
theorem fewChances_no (hq : (fewL L).length = q) (hv : validB L = false) (A' : Option Addr) (c' : Nat) (w1 : World) (h : RowsA w1 w1.heap.size A' (fewL L)) :
    Calls Try.prog 29 #[.slice A' q c'] w1 fun e w' => e = .returned (.tuple #[.slice none 0 0, .int .i64 2]) ∧ Below w1.heap.size w1 w' :=
  Chances_no A' q c' _ (fewL L) w1 hq (by rw [← hq]; exact few_len L) (few_rows L) h (by rw [few_valid]; exact hv)
/-- What came in, as numbers. -/
structure NatsOf (L : List (List Int)) (n : Nat) (W : List (List Nat)) : Prop where
  len : L.length = n
  eq : upp W = L
  ok : WOk W n
  valid : validB L = true
theorem nats_of (h : validB L = true) (hn : L.length = n) : NatsOf L n (toNN L) := by
  obtain ⟨h1, h2⟩ := valid_ok h
  exact ⟨hn, h1, by rw [← hn]; exact h2, h⟩
theorem NatsOf.toNN {W : List (List Nat)} (h : NatsOf L n W) : toNN L = W := by
  rw [← h.eq]
  simp only [Go.Proofs.Ytilnbiaabhdfgaa.toNN, upp, List.map_map]
  have : ∀ l ∈ W, (toN ∘ up) l = id l := fun l _ => by simp [toN, up, Function.comp_def]
  rw [List.map_congr_left this, List.map_id]
theorem toN_up (o : List Nat) : toN (up o) = o := by simp [toN, up, Function.comp_def]

/-- The answers where wishes are valid: over rows that read as W. -/
theorem okTrade {W : List (List Nat)} (h : NatsOf L n W) (A' : Option Addr) (c' : Nat) (w1 : World) (hA : RowsA w1 w1.heap.size A' L) :
    Calls Try.prog 19 #[.slice A' n c'] w1 (RowOk n (tradeN W) w1) := by
  rw [← h.toNN]; exact Trade_yes A' n c' _ L w1 h.len hA h.valid
theorem okGiven {W : List (List Nat)} (h : NatsOf L n W) (A' : Option Addr) (c' : Nat) (w1 : World) (hA : RowsA w1 w1.heap.size A' L) :
    Calls Try.prog 30 #[.slice A' n c'] w1 (TableOk n (givenN W) w1) := by
  rw [← h.toNN]; exact Given_yes A' n c' _ L w1 h.len hA h.valid
theorem okChances {W : List (List Nat)} (h : NatsOf L n W) (A' : Option Addr) (c' : Nat) (w1 : World) (hA : RowsA w1 w1.heap.size A' L) :
    Calls Try.prog 29 #[.slice A' n c'] w1 (TableOk n (chancesN W) w1) := by
  rw [← h.toNN]; exact Chances_yes A' n c' _ L w1 h.len hA h.valid
theorem okChoose {W : List (List Nat)} (h : NatsOf L n W) {o : List Nat} (ho : Ord o n) (A' X' : Option Addr) (c' cx : Nat) (w1 : World) (hA : RowsA w1 w1.heap.size A' L) (hX : IntsA w1 w1.heap.size X' (up o)) :
    Calls Try.prog 33 #[.slice A' n c', .slice X' n cx] w1 (RowOk n (chooseN W o) w1) := by
  have := Choose_yes A' X' n c' cx _ _ L (up o) w1 h.len hA hX h.valid (ord_B ho)
  rwa [h.toNN, toN_up] at this
theorem okBetter {W : List (List Nat)} (h : NatsOf L n W) {o : List Nat} (ho : Ord o n) (A' X' : Option Addr) (c' cx : Nat) (w1 : World) (hA : RowsA w1 w1.heap.size A' L) (hX : IntsA w1 w1.heap.size X' (up o)) :
    Calls Try.prog 38 #[.slice A' n c', .slice X' n cx] w1 (FindRes (betterN W n o) w1) := by
  have := Better_yes A' X' n c' cx _ _ L (up o) w1 h.len hA hX h.valid (ord_B ho)
  rwa [h.toNN, toN_up] at this
theorem okOrder {W : List (List Nat)} (h : NatsOf L n W) {o : List Nat} (ho : Ord o n) (A' X' : Option Addr) (c' cx : Nat) (w1 : World) (hA : RowsA w1 w1.heap.size A' L) (hX : IntsA w1 w1.heap.size X' (up o)) :
    Calls Try.prog 39 #[.slice A' n c', .slice X' n cx] w1 (FindRes (orderN W n o) w1) := by
  have := Order_yes A' X' n c' cx _ _ L (up o) w1 h.len hA hX h.valid (ord_B ho)
  rwa [h.toNN, toN_up] at this
end
end Go.Proofs.Ytilnbiaabhdfgaa
