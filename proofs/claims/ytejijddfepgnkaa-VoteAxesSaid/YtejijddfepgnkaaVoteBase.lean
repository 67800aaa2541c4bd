/-
  What the statements about votes begin with: the ballots that Few copies, whether they are valid, and the names as numbers.
-/
import Derived.Test.YtejijddfepgnkaaAwakeVote
import Derived.Test.YtejijddfepgnkaaRefValidVote
import Derived.Test.YtejijddfepgnkaaFewVote
import Derived.Test.YtejijddfepgnkaaMarginPlain
namespace Go.Proofs.Ytejijddfepgnkaa
open Go.RowKit
set_option linter.unusedVariables false
set_option linter.unusedSimpArgs false

theorem vew_rows (L : List (List Int)) : ∀ l ∈ fewV L, l.length ≤ 9223372036854775807 := by
  intro l hl
  simp only [fewV, List.mem_map] at hl
  obtain ⟨x, _, rfl⟩ := hl
  simp only [List.length_take]; omega
theorem vew_len (L : List (List Int)) : (fewV L).length ≤ 9223372036854775807 := by simp [fewV]; omega
theorem vew_same {L : List (List Int)} (h : votesB L = true) : fewV L = L := by
  obtain ⟨⟨h1, h9⟩, ⟨m1, m5⟩, hr⟩ := votesB_iff.1 h
  unfold fewV
  rw [List.take_of_length_le (by omega)]
  have : ∀ l ∈ L, List.take 11 l = id l := fun l hl => List.take_of_length_le (by have := (ordB_iff.1 (hr l hl)).1; omega)
  rw [List.map_congr_left this, List.map_id]
theorem vew_getD (L : List (List Int)) (k : Nat) (hk : k < 11) : (fewV L).getD k [] = (L.getD k []).take 11 := by
  simp only [fewV, List.getD_eq_getElem?_getD, List.getElem?_map, List.getElem?_take, if_pos hk]
  cases L[k]? <;> simp
theorem vew_valid (L : List (List Int)) : votesB (fewV L) = votesB L := by
  cases h : votesB L with
  | true => rw [vew_same h]; exact h
  | false =>
    cases h' : votesB (fewV L) with
    | false => rfl
    | true =>
      exfalso
      obtain ⟨⟨h1, h9⟩, ⟨m1, m5⟩, hr⟩ := votesB_iff.1 h'
      have hlen : (fewV L).length = min 11 L.length := by simp [fewV]
      have hL : L.length ≤ 9 := by omega
      have hall : ∀ l ∈ L, l.length ≤ 5 := fun l hl => by
        have hm : l.take 11 ∈ fewV L := by
          unfold fewV
          rw [List.take_of_length_le (by omega)]
          exact List.mem_map_of_mem hl
        have := (ordB_iff.1 (hr _ hm)).1
        rw [List.length_take] at this
        omega
      have e : fewV L = L := by
        unfold fewV
        rw [List.take_of_length_le (by omega)]
        have : ∀ l ∈ L, List.take 11 l = id l := fun l hl => List.take_of_length_le (by have := hall l hl; omega)
        rw [List.map_congr_left this, List.map_id]
      rw [e, h] at h'
      cases h'

section
variable {w : World} {A : Option Addr} {n c q : Nat} {L : List (List Int)}
/-- Few, in whatever world comes: what it copies has q rows. -/
theorem vew_in (hn : L.length = n) (hlen : n ≤ 9223372036854775807) (hrow : ∀ l ∈ L, l.length ≤ 9223372036854775807) (hq : (fewV L).length = q) (hA : RowsA w w.heap.size A L) :
    ∀ w', Below w.heap.size w w' → Calls Try.prog 21 #[.slice A n c] w' fun e w'' => ∃ A' c', e = .returned (.slice A' q c') ∧ q ≤ c' ∧ RowsA w'' w''.heap.size A' (fewV L) ∧ Below w'.heap.size w' w'' := fun w' hw' => by
  rw [← hq]
  exact few_any A n c w.heap.size L w' hn hlen hrow (hA.below hw')
/-- R.Valid, in whatever world comes. -/
theorem refvalid_in (hn : L.length = n) (hlen : n ≤ 9223372036854775807) (hrow : ∀ l ∈ L, l.length ≤ 9223372036854775807) (hA : RowsA w w.heap.size A L) :
    ∀ w', Below w.heap.size w w' → Calls Try.prog 24 #[.slice A n c] w' fun e w'' => e = .returned (.bool (votesB L)) ∧ w' = w'' := fun w' hw' => refValid_any A n c w.heap.size L w' hn hlen hrow (hA.below hw')
theorem vlist_in {X : Option Addr} {m cm q2 : Nat} {l : List Int} (hm : l.length = m) (hmc : m ≤ cm) (hlm : m ≤ 9223372036854775807) (hq2 : (l.take 11).length = q2) (hX : IntsA w w.heap.size X l) :
    ∀ w', Below w.heap.size w w' → Calls Try.prog 25 #[.slice X m cm] w' fun e w'' => ∃ A' c', e = .returned (.slice A' q2 c') ∧ q2 ≤ c' ∧ IntsA w'' w''.heap.size A' (l.take 11) ∧ Below w'.heap.size w' w'' := fun w' hw' => by
  rw [← hq2]
  refine (list_any X m cm w.heap.size l w' hm hmc hlm (hX.below hw')).mono ?_
  rintro e w'' ⟨A', c', h1, h2, h3, h4, _⟩
  exact ⟨A', c', h1, h2, h3, h4⟩
end

/-- Valid ballots, as numbers: v ballots over n candidates. -/
structure VotesOf (L : List (List Int)) (v n : Nat) (W : List (List Nat)) : Prop where
  eq : upp W = L
  ok : BOk W v n
  valid : votesB (upp W) = true
theorem votes_of {L : List (List Int)} {v : Nat} (h : votesB L = true) (hv : L.length = v) : ∃ n W, VotesOf L v n W ∧ (L.getD 0 []).length = n := by
  obtain ⟨h1, h2⟩ := votes_ok h
  exact ⟨_, toNN L, ⟨h1, by rw [← hv]; exact h2, by rw [h1]; exact h⟩, rfl⟩

theorem vtake_ord {o : List Int} {n : Nat} (hn : n ≤ 5) : ordB (o.take 11) n = ordB o n := by
  by_cases h : o.length ≤ 11
  · rw [List.take_of_length_le h]
  · have h1 : ordB o n = false := by
      cases h' : ordB o n with
      | false => rfl
      | true => have := (ordB_iff.1 h').1; omega
    have h2 : ordB (o.take 11) n = false := by
      cases h' : ordB (o.take 11) n with
      | false => rfl
      | true => have := (ordB_iff.1 h').1; simp only [List.length_take] at this; omega
    rw [h1, h2]
theorem vtake_same {o : List Int} {n : Nat} (hn : n ≤ 5) (h : ordB o n = true) : o.take 11 = o := List.take_of_length_le (by have := (ordB_iff.1 h).1; omega)
theorem votes_B {W : List (List Nat)} {v n : Nat} (h : BOk W v n) : votesB (upp W) = true := by
  have h0 : ((upp W).getD 0 []).length = n := by rw [upp_getD, up_length, (h.rows 0 h.pos).len]
  rw [votesB_iff, h0, upp_length, h.len]
  refine ⟨⟨h.pos, h.le⟩, ⟨h.npos, h.nle⟩, fun l hl => ?_⟩
  obtain ⟨i, hi, rfl⟩ := List.getElem_of_mem hl
  rw [upp_length, h.len] at hi
  have e : (upp W)[i]'(by rw [upp_length, h.len]; exact hi) = up (W.getD i []) := by
    rw [← upp_getD, List.getD_eq_getElem?_getD, List.getElem?_eq_getElem]; rfl
  rw [e]
  exact ord_B (h.rows i hi)
theorem getD_set {α : Type} {L : List α} {d : α} {v i j : Nat} (hlen : L.length = v) (l : α) (hj : j < v) : (L.set i l).getD j d = if j = i then l else L.getD j d := by
  simp only [List.getD_eq_getElem?_getD, List.getElem?_set]
  by_cases e : j = i
  · subst e; simp [hlen, hj]
  · have : ¬ i = j := fun h => e h.symm
    simp [e, this]
/-- Rows of one's own, of which row i is laid anew. -/
theorem rows_put {w : World} {zb v i m cy : Nat} {cur : Array Value} {t : TypeId} {vs : List Value} {L : List (List Int)} {Y : Option Addr} {l : List Int} (hz : w.heap[zb]? = some (.cells cur t (0, 0))) (hsz : v ≤ cur.size) (hcur : ∀ j, j < v → cur[j]? = vs[j]?)
    (hrv : RowVals w (some zb) vs L) (hv : L.length = v) (hi : i < v) (hY : IntsA w w.heap.size Y l) (hm : l.length = m) (hmc : m ≤ cy) (hoff : ∀ b o, Y = some ⟨b, o, none⟩ → b ≠ zb) :
    RowsA (w.setCell ⟨zb, i, none⟩ (.slice Y m cy)) w.heap.size (some ⟨zb, 0, none⟩) (L.set i l) := by
  intro j hj
  rw [List.length_set, hv] at hj
  rw [getD_set hv l hj]
  have hset := blk_set hz i (.slice Y m cy)
  have hcell : (w.setCell ⟨zb, i, none⟩ (.slice Y m cy)).cell? ⟨zb, 0 + j, none⟩ = (cur.setIfInBounds i (.slice Y m cy))[j]? := by rw [Nat.zero_add]; exact blk_cell hset j
  have hzl := lt_of_block hz
  by_cases e : j = i
  · subst e
    rw [if_pos rfl, hm]
    refine ⟨zb, 0, Y, cy, rfl, hzl, ?_, hmc, ?_⟩
    · rw [hcell, Array.getElem?_setIfInBounds_self_of_lt (by omega)]
    · by_cases h0 : l.length = 0
      · exact fun q hq => absurd hq (by omega)
      · obtain ⟨b', o', x', e1, h2, _⟩ := hY.at_ (k := 0) (by omega)
        refine hY.keepA fun b o e => ?_
        have e9 := e1.symm.trans e
        injection e9 with e9; injection e9 with e9
        subst e9
        exact ⟨h2, blk_far _ (hoff b' o e)⟩
  · rw [if_neg e]
    obtain ⟨A', c', e1, hc', hI, hO⟩ := hrv.2 j (by rw [hv]; exact hj)
    refine ⟨zb, 0, A', c', rfl, hzl, ?_, hc', ?_⟩
    · rw [hcell, Array.getElem?_setIfInBounds_ne (fun h => e h.symm), hcur j hj, e1]
    · by_cases h0 : (L.getD j []).length = 0
      · exact fun q hq => absurd hq (by omega)
      · obtain ⟨b', o', x', e2, h2, _⟩ := hI.at_ (k := 0) (by omega)
        refine hI.keepA fun b o e => ?_
        have e9 := e2.symm.trans e
        injection e9 with e9; injection e9 with e9
        subst e9
        exact ⟨h2, blk_far _ (fun e3 => hO (by omega) b' o e (by rw [e3]))⟩
end Go.Proofs.Ytejijddfepgnkaa
