/-
  What the statements about votes from above begin with: the ballots that ballots copies, and counts.
-/
import Derived.Test.YtgognkofnegobaaFirsts
import Derived.Test.YtgognkofnegobaaWinV
import Derived.Test.YtgognkofnegobaaRefValidVote
import Derived.Test.YtgognkofnegobaaEqual
import Derived.Test.YtgognkofnegobaaBase
namespace Go.Proofs.Ytgognkofnegobaa
open Go.RowKit
set_option linter.unusedVariables false
set_option linter.unusedSimpArgs false

theorem IntsA.take {w : World} {B : Nat} {A : Option Addr} {l : List Int} (h : IntsA w B A l) (k : Nat) : IntsA w B A (l.take k) := by
  intro i hi
  simp only [List.length_take] at hi
  obtain ⟨b, o, e, hb, hc⟩ := h i (by omega)
  refine ⟨b, o, e, hb, ?_⟩
  rw [hc]
  simp only [List.getD_eq_getElem?_getD, List.getElem?_take]
  rw [if_pos (by omega)]

/-- What Few leaves. -/
def fewV (L : List (List Int)) : List (List Int) := (L.take 11).map (List.take 11)
theorem fewV_step (L : List (List Int)) (k : Nat) (hk : k < L.length) (h11 : k < 11) : (L.take (k + 1)).map (List.take 11) = (L.take k).map (List.take 11) ++ [(L.getD k []).take 11] := by
  rw [List.take_succ_eq_append_getElem hk, List.map_append, List.getD_eq_getElem?_getD, List.getElem?_eq_getElem hk]; rfl

theorem vew_same {L : List (List Int)} (h : votesB L = true) : fewV L = L := by
  obtain ⟨⟨h1, h9⟩, ⟨m1, m5⟩, hr⟩ := votesB_iff.1 h
  unfold fewV
  rw [List.take_of_length_le (by omega)]
  have : ∀ l ∈ L, List.take 11 l = id l := fun l hl => List.take_of_length_le (by have := (ordB_iff.1 (hr l hl)).1; omega)
  rw [List.map_congr_left this, List.map_id]
/-- Valid ballots, as numbers: v ballots over n candidates. -/
structure VotesOf (L : List (List Int)) (v n : Nat) (W : List (List Nat)) : Prop where
  eq : upp W = L
  ok : BOk W v n
  valid : votesB (upp W) = true
theorem votes_of {L : List (List Int)} {v : Nat} (h : votesB L = true) (hv : L.length = v) : ∃ n W, VotesOf L v n W ∧ (L.getD 0 []).length = n := by
  obtain ⟨h1, h2⟩ := votes_ok h
  exact ⟨_, toNN L, ⟨h1, by rw [← hv]; exact h2, by rw [h1]; exact h⟩, rfl⟩

theorem ints_lit {w : World} {b : Nat} {t : TypeId} {cs : Array Value} {l : List Int} (h : w.heap[b]? = some (.cells cs t (0, 0))) (hc : cs = (l.map (Value.int .i64)).toArray) : IntsA w w.heap.size (some ⟨b, 0, none⟩) l := by
  intro i hi
  refine ⟨b, 0, rfl, lt_of_block h, ?_⟩
  rw [blk_cell h, hc]
  simp [hi]
def awL : List (List Int) := [[1, 0], [0, 1], [1, 0]]
def awN : List (List Nat) := [[1, 0], [0, 1], [1, 0]]
def awW (w : World) : World := (((w.alloc (.cells #[.int .i64 1, .int .i64 0] 3)).alloc (.cells #[.int .i64 0, .int .i64 1] 3)).alloc (.cells #[.int .i64 1, .int .i64 0] 3)).alloc
      (.cells #[.slice (some ⟨w.heap.size, 0, none⟩) 2 2, .slice (some ⟨w.heap.size + 1, 0, none⟩) 2 2, .slice (some ⟨w.heap.size + 1 + 1, 0, none⟩) 2 2] 24)
theorem awake_rows (w : World) : RowsA (awW w) (awW w).heap.size (some ⟨w.heap.size + 1 + 1 + 1, 0, none⟩) awL ∧ Below w.heap.size w (awW w) := by
  refine ⟨?_, ((((Below.refl _ _).alloc (Nat.le_refl _) _).alloc (by simp) _).alloc (by simp; omega) _).alloc (by simp; omega) _⟩
  generalize hw : awW w = w3
  have h0 : w3.heap[w.heap.size]? = some (.cells #[.int .i64 1, .int .i64 0] 3 (0, 0)) := by
    subst hw
    exact alloc_old _ _ _ (by simp; omega) (alloc_old _ _ _ (by simp; omega) (alloc_old _ _ _ (by simp) (alloc_new _ _ _ rfl)))
  have h1 : w3.heap[w.heap.size + 1]? = some (.cells #[.int .i64 0, .int .i64 1] 3 (0, 0)) := by
    subst hw
    exact alloc_old _ _ _ (by simp) (alloc_old _ _ _ (by simp) (alloc_new _ _ _ (by simp)))
  have h2 : w3.heap[w.heap.size + 1 + 1]? = some (.cells #[.int .i64 1, .int .i64 0] 3 (0, 0)) := by
    subst hw
    exact alloc_old _ _ _ (by simp) (alloc_new _ _ _ (by simp))
  have h3 : w3.heap[w.heap.size + 1 + 1 + 1]? = some (.cells #[.slice (some ⟨w.heap.size, 0, none⟩) 2 2, .slice (some ⟨w.heap.size + 1, 0, none⟩) 2 2, .slice (some ⟨w.heap.size + 1 + 1, 0, none⟩) 2 2] 24 (0, 0)) := by
    subst hw
    exact alloc_new _ _ _ (by simp)
  have i0 := ints_lit h0 (l := [1, 0]) rfl
  have i1 := ints_lit h1 (l := [0, 1]) rfl
  have i2 := ints_lit h2 (l := [1, 0]) rfl
  intro i hi
  match i, hi with
  | 0, _ => exact ⟨_, 0, some ⟨w.heap.size, 0, none⟩, 2, rfl, lt_of_block h3, blk_cell h3 0, by decide, i0⟩
  | 1, _ => exact ⟨_, 0, some ⟨w.heap.size + 1, 0, none⟩, 2, rfl, lt_of_block h3, blk_cell h3 1, by decide, i1⟩
  | 2, _ => exact ⟨_, 0, some ⟨w.heap.size + 1 + 1, 0, none⟩, 2, rfl, lt_of_block h3, blk_cell h3 2, by decide, i2⟩

theorem awake_valid : votesB awL = true := by decide +kernel
theorem awake_toN : toNN awL = awN := by decide +kernel
theorem counts_win : winN awN 3 2 0 = 1 := by
  rw [winN, if_pos rfl]; decide +kernel

set_option maxHeartbeats 800000 in
theorem counts_any (w : World) : Calls Try.prog 9 #[] w fun e w' => e = .returned (.bool true) ∧ Below w.heap.size w w' := by
  obtain ⟨hR, hB⟩ := awake_rows w
  obtain ⟨hup, hok⟩ := votes_ok awake_valid
  rw [awake_toN] at hup hok
  have HB := hide hB
  have h := WinN_yes (some ⟨w.heap.size + 1 + 1 + 1, 0, none⟩) 3 2 3 0 awN (awW w) (by omega) hok (by rw [hup]; exact awake_valid) (by rw [hup]; exact hR)
  rw [counts_win] at h
  have HT := hide h
  clear hR hB hup hok h
  unfold awW at HT HB
  go_enter Try.func9, Try.ntmps9
  go_wp2_with (go_at_call 10; refine (HT.out).mono ?_; rintro e w1 ⟨rfl, hb1⟩; have HB1 := hide hb1; clear hb1)
  go_ret
  exact ⟨rfl, HB.out.trans (HB1.out.mono HB.out.size)⟩

set_option maxRecDepth 100000 in
set_option maxHeartbeats 1600000 in
theorem bal_own (A : Option Addr) (n c B : Nat) (L : List (List Int)) (w : World) (hn : L.length = n) (hlen : n ≤ 9223372036854775807) (hrow : ∀ l ∈ L, l.length ≤ 9223372036854775807) (hA : RowsA w B A L) :
    Calls Try.prog 11 #[.slice A n c] w fun e w' => ∃ A' c' vs, e = .returned (.slice A' (fewV L).length c') ∧ (fewV L).length ≤ c' ∧ w'.ownsRow w.heap.size 24 1 (.slice A' (fewV L).length c') (fewV L).length vs ∧ RowVals w' (Value.slice A' (fewV L).length c').ownBlock vs (fewV L) ∧ Below w.heap.size w w' := by
  subst hn
  have hA1 := hA.top
  have HR := hide hrow
  clear hrow
  go_enter Try.func11, Try.ntmps11
  go_wp2
  go_loopw [3, 8] (fun v i wr => ∃ (k m c' : Nat) (X : Option Addr) (vs : List Value), k ≤ L.length ∧ m ≤ 11 ∧ m ≤ k ∧ (k < 11 → m = k) ∧ (11 ≤ k → m = 11) ∧ i = .int .i64 k ∧ v = .slice X m c' ∧ m ≤ c' ∧ wr.ownsRow w.heap.size 24 1 (.slice X m c') m vs ∧
      RowVals wr (Value.slice X m c').ownBlock vs ((L.take m).map (List.take 11)) ∧ Below w.heap.size w wr) (fun _ i _ => L.length - (intOf i).toNat)
  case atStart => exact ⟨0, 0, 0, none, [], by omega, by omega, by omega, fun _ => rfl, fun h => absurd h (by omega), rfl, rfl, by omega, World.ownsRow_nil _ _ _ _, RowVals.nil_, Below.refl _ _⟩
  case round =>
    obtain ⟨k, m, c', X, vs, hk, hm11, hmk, hmlt, hmge, rfl, rfl, hmc, hown, hrv, hbel⟩ := hrel
    have HOW := hide hown
    have HRV := hide hrv
    clear hown hrv
    by_cases hlt : k < L.length
    · obtain ⟨b, o, A', n', c1, rfl, hb, hc, hx, hle, hI⟩ := (hA1.below hbel).at_ hlt
      by_cases h11 : k < 11
      · obtain rfl : m = k := hmlt h11
        have hn' : n' ≤ 9223372036854775807 := by rw [← hx.out]; exact HR.out _ (getD_mem hlt)
        generalize hq : ((L.getD m []).take 11).length = q
        have hqm : q = min n' 11 := by rw [← hq, List.length_take, hx.out, Nat.min_comm]
        have HCL := hide (clone_any A' q c1 w.heap.size ((L.getD m []).take 11) wr hq (by omega) (hI.take 11))
        have HQ := hide hq
        clear hq
        clear hI hmlt hmge
        rcases Nat.lt_or_ge 11 n' with h11' | h11'
        · obtain rfl : q = 11 := by omega
          clear hqm
          go_wp2_with (first
            | (go_at_call 22; refine (HCL.out).mono ?_; rintro e w1 ⟨A2, c2, rfl, hl2, hI2, hxxx, hb2, hlow⟩; have HOW1 := hide (HOW.out.kept (row := none) (w' := w1) ⟨hb2.os, hb2.tape, hb2.output, hb2.size, fun k hk _ => hb2.block k hk⟩ (by
                cases h : (Value.slice X m c').ownBlock
                · exact .inl rfl
                · exact .inr (by simp))); have HRV1 := hide (HRV.out.next hb2); have HI2 := hide hI2; have HLOW := hide hlow; clear hI2 hlow)
            | (at_builtin; refine wpList_app1 (w0 := w1) _ _ 22 24 (.slice none 0 0) 24 rfl rfl Try.underlying22 info_ints rfl w.heap.size (.slice X m c') m vs (.slice A2 11 c2) rfl rfl rfl ⟨_, rfl⟩ HOW1.out rfl (by omega) (by omega) (by have := hbel.size; have := hb2.size; omega) ?_; intro g cg w2 hown2 hc2 hc2m hg2 hgl hgrow; have HOW2 := hide hown2; have HG := hide hgrow; have HG2 := hide hg2; clear hown2 hgrow hg2))
          go_roundw
          case rel =>
            refine ⟨m + 1, m + 1, cg, some ⟨g, 0, none⟩, _, by omega, by omega, by omega, fun _ => rfl, fun _ => by omega, by go_num, rfl, hc2, HOW2.out, ?_, ?_⟩
            · rw [fewV_step L m hlt h11]
              refine HRV1.out.snoc HG.out HG2.out HQ.out hl2 HI2.out (fun _ => off_own (n := 11) (c := c2) fun gg hq => ?_)
              intro e
              have h1 := HLOW.out gg hq
              have h2 := (own_lt HOW.out gg e.symm).2
              omega
            · exact (hbel.trans (hb2.mono hbel.size)).grown HG.out (by have := hbel.size; have := hb2.size; omega) (fun q hq => (own_lt HOW.out q hq).1)
          case measure => simp [intOf]; omega
        · obtain rfl : n' = q := by omega
          clear hqm
          go_wp2_with (first
            | (go_at_call 22; refine (HCL.out).mono ?_; rintro e w1 ⟨A2, c2, rfl, hl2, hI2, hxxx, hb2, hlow⟩; have HOW1 := hide (HOW.out.kept (row := none) (w' := w1) ⟨hb2.os, hb2.tape, hb2.output, hb2.size, fun k hk _ => hb2.block k hk⟩ (by
                cases h : (Value.slice X m c').ownBlock
                · exact .inl rfl
                · exact .inr (by simp))); have HRV1 := hide (HRV.out.next hb2); have HI2 := hide hI2; have HLOW := hide hlow; clear hI2 hlow)
            | (at_builtin; refine wpList_app1 (w0 := w1) _ _ 22 24 (.slice none 0 0) 24 rfl rfl Try.underlying22 info_ints rfl w.heap.size (.slice X m c') m vs (.slice A2 n' c2) rfl rfl rfl ⟨_, rfl⟩ HOW1.out rfl (by omega) (by omega) (by have := hbel.size; have := hb2.size; omega) ?_; intro g cg w2 hown2 hc2 hc2m hg2 hgl hgrow; have HOW2 := hide hown2; have HG := hide hgrow; have HG2 := hide hg2; clear hown2 hgrow hg2))
          go_roundw
          case rel =>
            refine ⟨m + 1, m + 1, cg, some ⟨g, 0, none⟩, _, by omega, by omega, by omega, fun _ => rfl, fun _ => by omega, by go_num, rfl, hc2, HOW2.out, ?_, ?_⟩
            · rw [fewV_step L m hlt h11]
              refine HRV1.out.snoc HG.out HG2.out HQ.out hl2 HI2.out (fun _ => off_own (n := n') (c := c2) fun gg hq => ?_)
              intro e
              have h1 := HLOW.out gg hq
              have h2 := (own_lt HOW.out gg e.symm).2
              omega
            · exact (hbel.trans (hb2.mono hbel.size)).grown HG.out (by have := hbel.size; have := hb2.size; omega) (fun q hq => (own_lt HOW.out q hq).1)
          case measure => simp [intOf]; omega
      · obtain rfl : m = 11 := hmge (by omega)
        clear hmlt hmge hI
        go_wp2
        go_roundw
        case rel => exact ⟨k + 1, 11, c', X, vs, by omega, by omega, by omega, fun h => absurd h (by omega), fun _ => rfl, by go_num, rfl, hmc, HOW.out, HRV.out, hbel⟩
        case measure => simp [intOf]; omega
    · have hfl : (L.take m).map (List.take 11) = fewV L := by
        unfold fewV
        rcases Nat.lt_or_ge k 11 with h | h
        · rw [hmlt h, List.take_of_length_le (by omega), List.take_of_length_le (by omega)]
        · rw [hmge h]
      have hml : m = (fewV L).length := by rw [← hfl]; simp; omega
      have HFL := hide hfl
      have HML := hide hml
      clear hfl hml hmlt hmge
      go_wp2
      go_ret
      refine ⟨X, c', vs, ?_, by rw [← HML.out]; exact hmc, ?_, ?_, hbel⟩
      · rw [← HML.out]; rfl
      · rw [← HML.out]; exact HOW.out
      · rw [← HML.out, ← HFL.out]; exact HRV.out
theorem bal_any (A : Option Addr) (n c B : Nat) (L : List (List Int)) (w : World) (hn : L.length = n) (hlen : n ≤ 9223372036854775807) (hrow : ∀ l ∈ L, l.length ≤ 9223372036854775807) (hv : votesB L = true) (hA : RowsA w B A L) :
    Calls Try.prog 11 #[.slice A n c] w fun e w' => ∃ A' c', e = .returned (.slice A' n c') ∧ n ≤ c' ∧ RowsA w' w'.heap.size A' L ∧ Below w.heap.size w w' :=
  (bal_own A n c B L w hn hlen hrow hA).mono fun e w' ⟨A', c', vs, h1, h2, h3, h4, h5⟩ => by
    rw [vew_same hv, hn] at h1 h2
    rw [vew_same hv] at h3 h4
    exact ⟨A', c', h1, h2, rows_of h4 h3, h5⟩
end Go.Proofs.Ytgognkofnegobaa
