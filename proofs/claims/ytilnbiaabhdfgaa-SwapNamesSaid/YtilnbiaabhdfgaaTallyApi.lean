/-
  swap.Given, swap.Chances, swap.Choose.
-/
import Derived.Test.YtilnbiaabhdfgaaTally
import Derived.Test.YtilnbiaabhdfgaaTradeApi
import Derived.Test.YtilnbiaabhdfgaaChoose
import Derived.Test.YtilnbiaabhdfgaaBase
namespace Go.Proofs.Ytilnbiaabhdfgaa
open Go.RowKit
set_option linter.unusedVariables false
set_option linter.unusedSimpArgs false

/-- What trading gives from a first outcome; what everyone gets how often. -/
def givenF (W : List (List Nat)) (o : List Nat) : List Nat := listF W.length (traded W o).1
def givenN (W : List (List Nat)) : List (List Nat) := tallyN W.length (givenF W)
def chancesN (W : List (List Nat)) : List (List Nat) := tallyN W.length (chooseN W)
theorem listF_len (n : Nat) (f : Nat → Nat) : (listF n f).length = n := by simp [listF]
theorem listF_getD (n : Nat) (f : Nat → Nat) {i : Nat} (h : i < n) : (listF n f).getD i 0 = f i := by simp [listF, List.getD_eq_getElem?_getD, h]

set_option maxHeartbeats 400000 in
theorem given1_any (A X : Option Addr) (n c c' pb B : Nat) (W : List (List Nat)) (o : List Nat) (w : World) (hn : n ≤ 60) (hp : w.heap[pb]? = some (.cells #[.slice A n c] 49 (0, 0))) (hA : RowsA w B A (upp W)) (hM : Mkt W o n) (hX : IntsA w w.heap.size X (up o)) :
    Calls Try.prog 55 #[.slice X n c', .pointer (some ⟨pb, 0, none⟩)] w (OneRow n (givenF W o) w) := by
  have HT := hide (trade_any A X n c c' w.heap.size W o w hn hA.top hX hM)
  have hW : Hid (givenF W o = listF n (traded W o).1) := by show _ = _; rw [givenF, hM.len]
  have q0 := blk_cell hp 0
  simp only [List.getElem?_toArray, List.getElem?_cons_zero] at q0
  clear hp hA hM hX hn
  go_enter Try.func55, Try.ntmps55
  go_wp2_with (go_at_call 50; refine (HT.out).mono ?_; rintro e w3 ⟨O, R, co, cr, rfl, hO, hR, hb3, hn1, hn2⟩; have HN1 := hide hn1; have HN2 := hide hn2; clear hn1 hn2)
  go_ret
  exact ⟨O, co, rfl, by rw [hW.out]; exact hO, hb3, HN1.out⟩

theorem given_rule {A : Option Addr} {n c pb : Nat} {W : List (List Nat)} {w : World} (hn : n ≤ 60) (hp : w.heap[pb]? = some (.cells #[.slice A n c] 49 (0, 0))) (hA : RowsA w w.heap.size A (upp W)) (hW : WOk W n) :
    RuleOk 55 #[] #[.pointer (some ⟨pb, 0, none⟩)] n w (givenF W) :=
  ⟨goes_of Try.func55 rfl rfl, fun w' hk hs A' c' l hl hI hc => given1_any A A' n c c' pb w.heap.size W l w' hn ((hk _ (lt_of_block hp)).trans hp) (hA.keep fun p hp => World.cell?_of_block (hk _ hp)) (hW.mkt hl) hI,
    fun l hl => ⟨by rw [givenF, listF_len, hW.len], fun i hi => by rw [givenF, listF_getD _ _ (by rw [hW.len]; exact hi)]; exact ((hW.mkt hl).own_law i hi).1⟩⟩
theorem choose_rule {A : Option Addr} {n c : Nat} {W : List (List Nat)} {w : World} (hn : n ≤ 60) (hA : RowsA w w.heap.size A (upp W)) (hW : WOk W n) :
    RuleOk 54 #[.slice A n c] #[] n w (chooseN W) :=
  ⟨goes_of Try.func54 rfl rfl, fun w' hk hs A' c' l hl hI hc => choose_any A A' n c c' w.heap.size w'.heap.size W l w' hn hW.len hW.rows (hA.keep fun p hp => World.cell?_of_block (hk _ hp)) hl hI,
    fun l hl => ⟨by rw [chooseN, listF_len, hW.len], fun i hi => by rw [chooseN, listF_getD _ _ (by rw [hW.len]; exact hi)]; exact (chosen_cho hW.len hW.rows hl).lt i hi⟩⟩

set_option maxHeartbeats 400000 in
theorem Given_no (A : Option Addr) (n c B : Nat) (L : List (List Int)) (w : World) (hn : L.length = n) (hlen : n ≤ 9223372036854775807) (hrow : ∀ l ∈ L, l.length ≤ 9223372036854775807) (hA : RowsA w B A L) (hv : validB L = false) :
    Calls Try.prog 30 #[.slice A n c] w fun e w' => e = .returned (.tuple #[.slice none 0 0, .int .i64 2]) ∧ Below w.heap.size w w' := by
  have hA1 : RowsA (w.alloc (.cells #[.slice A n c] 49)) w.heap.size A L := hA.top.keep fun p hp => World.cell?_alloc_lt _ _ _ hp
  have HV := hide (valid_any A n c _ L _ hn hlen hrow hA1)
  rw [hv] at HV
  clear hv hrow hn hA hA1
  go_enter Try.func30, Try.ntmps30
  go_wp2_with (go_at_call 48; refine (HV.out).mono ?_; rintro e w1 ⟨rfl, hb1⟩)
  go_ret2
  exact ⟨rfl, ((Below.refl _ _).alloc (Nat.le_refl _) _).trans (hb1.mono (by simp))⟩
set_option maxHeartbeats 400000 in
theorem Chances_no (A : Option Addr) (n c B : Nat) (L : List (List Int)) (w : World) (hn : L.length = n) (hlen : n ≤ 9223372036854775807) (hrow : ∀ l ∈ L, l.length ≤ 9223372036854775807) (hA : RowsA w B A L) (hv : validB L = false) :
    Calls Try.prog 29 #[.slice A n c] w fun e w' => e = .returned (.tuple #[.slice none 0 0, .int .i64 2]) ∧ Below w.heap.size w w' := by
  have HV := hide (valid_any A n c B L w hn hlen hrow hA)
  rw [hv] at HV
  clear hv hrow hn
  go_enter Try.func29, Try.ntmps29
  go_wp2_with (go_at_call 48; refine (HV.out).mono ?_; rintro e w1 ⟨rfl, hb1⟩)
  go_ret2
  exact ⟨rfl, hb1⟩

/-- A table and OK. -/
def TableOk (n : Nat) (T : List (List Nat)) (w : World) (e : Ending) (w' : World) : Prop :=
  ∃ X c, e = .returned (.tuple #[.slice X n c, .int .i64 0]) ∧ n ≤ c ∧ RowsA w' w'.heap.size X (upp T) ∧ Below w.heap.size w w'

set_option maxHeartbeats 400000 in
theorem Given_yes (A : Option Addr) (n c B : Nat) (L : List (List Int)) (w : World) (hn : L.length = n) (hA : RowsA w B A L) (hv : validB L = true) :
    Calls Try.prog 30 #[.slice A n c] w (TableOk n (givenN (toNN L)) w) := by
  obtain ⟨h5, hrow⟩ := rows_short hv
  obtain ⟨hu, hok⟩ := valid_ok hv
  rw [hn] at hok h5
  have hA1 : RowsA (w.alloc (.cells #[.slice A n c] 49)) w.heap.size A L := hA.top.keep fun p hp => World.cell?_alloc_lt _ _ _ hp
  have HV := hide (valid_any A n c _ L _ hn (by omega) hrow hA1)
  rw [hv] at HV
  have HA : Hid (RowsA (w.alloc (.cells #[.slice A n c] 49)) (w.heap.size + 1) A (upp (toNN L))) := by rw [hu]; exact hA1.more (by omega)
  have HOK := hide hok
  have HT : Hid (givenN (toNN L) = tallyN n (givenF (toNN L))) := by show _ = _; rw [givenN, hok.len]
  have hpos := hok.pos
  clear hv hrow hn hu hA hA1 hok
  go_enter Try.func30, Try.ntmps30
  go_wp2_with (first
    | (go_at_call 48; refine (HV.out).mono ?_; rintro e w1 ⟨rfl, hb1⟩; have hp1 : w1.heap[w.heap.size]? = some (.cells #[.slice A n c] 49 (0, 0)) := (hb1.block _ (by simp)).trans (alloc_new _ _ _ rfl); have HP1 := hide hp1; have q1 := blk_cell hp1 0; simp only [List.getElem?_toArray, List.getElem?_cons_zero] at q1; clear hp1)
    | (go_at_call 53; refine (tally_any A c _ h5 hpos (given_rule (by omega) HP1.out (HA.out.top.next hb1) HOK.out)).mono ?_; rintro e w2 ⟨X, cx, rfl, hcx, hR, hb2⟩))
  go_ret2
  refine ⟨X, cx, rfl, hcx, by rw [HT.out]; exact hR, ?_⟩
  have h1 : Below w.heap.size w w1 := ((Below.refl _ _).alloc (Nat.le_refl _) _).trans (hb1.mono (by simp))
  exact h1.trans (hb2.mono h1.size)

set_option maxHeartbeats 400000 in
theorem Chances_yes (A : Option Addr) (n c B : Nat) (L : List (List Int)) (w : World) (hn : L.length = n) (hA : RowsA w B A L) (hv : validB L = true) :
    Calls Try.prog 29 #[.slice A n c] w (TableOk n (chancesN (toNN L)) w) := by
  obtain ⟨h5, hrow⟩ := rows_short hv
  obtain ⟨hu, hok⟩ := valid_ok hv
  rw [hn] at hok h5
  have HV := hide (valid_any A n c _ L _ hn (by omega) hrow hA)
  rw [hv] at HV
  have HA : Hid (RowsA w w.heap.size A (upp (toNN L))) := by rw [hu]; exact hA.top
  have HOK := hide hok
  have HT : Hid (chancesN (toNN L) = tallyN n (chooseN (toNN L))) := by show _ = _; rw [chancesN, hok.len]
  have hpos := hok.pos
  clear hv hrow hn hu hA hok
  go_enter Try.func29, Try.ntmps29
  go_wp2_with (first
    | (go_at_call 48; refine (HV.out).mono ?_; rintro e w1 ⟨rfl, hb1⟩)
    | (go_at_call 53; refine (tally_any A c _ h5 hpos (choose_rule (by omega) (HA.out.next hb1) HOK.out)).mono ?_; rintro e w2 ⟨X, cx, rfl, hcx, hR, hb2⟩))
  go_ret2
  exact ⟨X, cx, rfl, hcx, by rw [HT.out]; exact hR, hb1.trans (hb2.mono hb1.size)⟩

set_option maxHeartbeats 400000 in
theorem Choose_no (A X : Option Addr) (n c m cm B B' : Nat) (L : List (List Int)) (l : List Int) (w : World) (hn : L.length = n) (hlen : n ≤ 9223372036854775807) (hrow : ∀ l ∈ L, l.length ≤ 9223372036854775807) (hA : RowsA w B A L) (hm : l.length = m) (hlm : m ≤ 9223372036854775807) (hX : IntsA w B' X l) (hv : validB L = false ∨ validB L = true ∧ ordB l n = false) :
    Calls Try.prog 33 #[.slice A n c, .slice X m cm] w fun e w' => e = .returned (.tuple #[.slice none 0 0, .int .i64 2]) ∧ Below w.heap.size w w' := by
  have HV := hide (valid_any A n c B L w hn hlen hrow hA)
  have hX1 := hX.top
  rcases hv with hv | ⟨hv, ho⟩
  · rw [hv] at HV
    clear hv hrow hn
    go_enter Try.func33, Try.ntmps33
    go_wp2_with (go_at_call 48; refine (HV.out).mono ?_; rintro e w1 ⟨rfl, hb1⟩)
    go_ret2
    exact ⟨rfl, hb1⟩
  · have h60 : n ≤ 60 := by have := (validB_iff.1 hv).1.2; omega
    rw [hv] at HV
    have HM := hide hm
    have HO := hide ho
    clear hv hrow hn hm ho
    go_enter Try.func33, Try.ntmps33
    go_wp2_with (first
      | (go_at_call 48; refine (HV.out).mono ?_; rintro e w1 ⟨rfl, hb1⟩; have HI := hide (isOrder_any X m cm w1.heap.size n l w1 HM.out hlm h60 (hX1.next hb1)); rw [HO.out] at HI)
      | (go_at_call 59; refine (HI.out).mono ?_; rintro e w2 ⟨rfl, rfl⟩))
    go_ret2
    exact ⟨rfl, hb1⟩

/-- A row of n ints and OK. -/
def RowOk (n : Nat) (l : List Nat) (w : World) (e : Ending) (w' : World) : Prop :=
  ∃ O co, e = .returned (.tuple #[.slice O n co, .int .i64 0]) ∧ IntsA w' w'.heap.size O (up l) ∧ Below w.heap.size w w'

set_option maxHeartbeats 400000 in
theorem Choose_yes (A X : Option Addr) (n c cm B B' : Nat) (L : List (List Int)) (l : List Int) (w : World) (hn : L.length = n) (hA : RowsA w B A L) (hX : IntsA w B' X l) (hv : validB L = true) (ho : ordB l n = true) :
    Calls Try.prog 33 #[.slice A n c, .slice X n cm] w (RowOk n (chooseN (toNN L) (toN l)) w) := by
  obtain ⟨h5, hrow⟩ := rows_short hv
  obtain ⟨hu, hok⟩ := valid_ok hv
  obtain ⟨hul, hol⟩ := ord_of ho
  have hm : l.length = n := by rw [← hul, up_length]; exact hol.len
  rw [hn] at hok h5
  have HV := hide (valid_any A n c _ L _ hn (by omega) hrow hA)
  rw [hv] at HV
  have HA : Hid (RowsA w w.heap.size A (upp (toNN L))) := by rw [hu]; exact hA.top
  have hX1 := hX.top
  have HX : Hid (IntsA w w.heap.size X (up (toN l))) := by rw [hul]; exact hX1
  have HOK := hide hok
  have HM := hide hm
  have HO := hide ho
  have HOL := hide hol
  clear hv hrow hn hu hA hok hul hol hm ho hX
  go_enter Try.func33, Try.ntmps33
  go_wp2_with (first
    | (go_at_call 48; refine (HV.out).mono ?_; rintro e w1 ⟨rfl, hb1⟩; have HI := hide (isOrder_any X n cm w1.heap.size n l w1 HM.out (by omega) (by omega) (hX1.next hb1)); rw [HO.out] at HI)
    | (go_at_call 59; refine (HI.out).mono ?_; rintro e w2 ⟨rfl, rfl⟩)
    | (go_at_call 54; refine (choose_any A X n c cm w1.heap.size w1.heap.size (toNN L) (toN l) w1 (by omega) HOK.out.len HOK.out.rows (HA.out.next hb1) HOL.out (HX.out.next hb1)).mono ?_; rintro e w3 ⟨O, co, rfl, hO, hb3, _⟩))
  go_ret2
  exact ⟨O, co, rfl, hO, hb1.trans (hb3.mono hb1.size)⟩
end Go.Proofs.Ytilnbiaabhdfgaa
