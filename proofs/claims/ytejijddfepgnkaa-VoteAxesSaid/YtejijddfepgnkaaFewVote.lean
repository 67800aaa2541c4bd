/-
  The statements' own helpers: list and few copy the beginning of what came in.
-/
import Derived.Test.YtejijddfepgnkaaEqual
import Derived.Test.YtejijddfepgnkaaBase
namespace Go.Proofs.Ytejijddfepgnkaa
open Go.RowKit
set_option linter.unusedVariables false
set_option linter.unusedSimpArgs false

theorem IntsA.take {w : World} {B : Nat} {A : Option Addr} {l : List Int} (h : IntsA w B A l) (k : Nat) : IntsA w B A (l.take k) := by
  intro i hi
  simp only [List.length_take] at hi
  obtain ⟨b, o, e, hb, hc⟩ := h i (by omega)
  refine ⟨b, o, e, hb, ?_⟩
  rw [hc]
  simp only [List.getD_eq_getElem?_getD, List.getElem?_take]
  rw [if_pos (by omega)]

/-- What Few leaves. -/
def fewV (L : List (List Int)) : List (List Int) := (L.take 11).map (List.take 11)
set_option maxHeartbeats 400000 in
theorem list_any (A : Option Addr) (n c B : Nat) (l : List Int) (w : World) (hn : l.length = n) (hc : n ≤ c) (hlen : n ≤ 9223372036854775807) (hA : IntsA w B A l) :
    Calls Try.prog 25 #[.slice A n c] w fun e w' => ∃ A' c', e = .returned (.slice A' (l.take 11).length c') ∧ (l.take 11).length ≤ c' ∧ IntsA w' w'.heap.size A' (l.take 11) ∧ Below w.heap.size w w' ∧
      (∀ g, (Value.slice A' (l.take 11).length c').ownBlock = some g → w.heap.size ≤ g) := by
  have hm : (l.take 11).length = min n 11 := by rw [List.length_take, hn, Nat.min_comm]
  generalize hk : (l.take 11).length = k
  have HC := hide (clone_any A k c B (l.take 11) w hk (by omega) (hA.take 11))
  have HN := hide hn
  have hkm : k = min n 11 := by omega
  clear hn hm hk
  rcases Nat.lt_or_ge 11 n with h11 | h11
  · obtain rfl : k = 11 := by omega
    clear hkm
    go_enter Try.func25, Try.ntmps25
    go_wp2_with (go_at_call 63; refine (HC.out).mono ?_; rintro e w' ⟨A', c', rfl, h1, h2, h3, h4, h5⟩; have H5 := hide h5; clear h5)
    go_ret
    exact ⟨A', c', rfl, h1, h2, h4, H5.out⟩
  · obtain rfl : n = k := by omega
    clear hkm
    go_enter Try.func25, Try.ntmps25
    go_wp2_with (go_at_call 63; refine (HC.out).mono ?_; rintro e w' ⟨A', c', rfl, h1, h2, h3, h4, h5⟩; have H5 := hide h5; clear h5)
    go_ret
    exact ⟨A', c', rfl, h1, h2, h4, H5.out⟩

theorem fewV_step (L : List (List Int)) (k : Nat) (hk : k < L.length) (h11 : k < 11) : (L.take (k + 1)).map (List.take 11) = (L.take k).map (List.take 11) ++ [(L.getD k []).take 11] := by
  rw [List.take_succ_eq_append_getElem hk, List.map_append, List.getD_eq_getElem?_getD, List.getElem?_eq_getElem hk]; rfl

set_option maxHeartbeats 800000 in
theorem few_own (A : Option Addr) (n c B : Nat) (L : List (List Int)) (w : World) (hn : L.length = n) (hlen : n ≤ 9223372036854775807) (hrow : ∀ l ∈ L, l.length ≤ 9223372036854775807) (hA : RowsA w B A L) :
    Calls Try.prog 21 #[.slice A n c] w fun e w' => ∃ A' c' vs, e = .returned (.slice A' (fewV L).length c') ∧ (fewV L).length ≤ c' ∧ w'.ownsRow w.heap.size 23 1 (.slice A' (fewV L).length c') (fewV L).length vs ∧ RowVals w' (Value.slice A' (fewV L).length c').ownBlock vs (fewV L) ∧ Below w.heap.size w w' := by
  subst hn
  have hA1 := hA.top
  have HR := hide hrow
  clear hrow
  go_enter Try.func21, Try.ntmps21
  go_wp2
  go_loopw [3, 8] (fun v i wr => ∃ (k m c' : Nat) (X : Option Addr) (vs : List Value), k ≤ L.length ∧ m ≤ 11 ∧ m ≤ k ∧ (k < 11 → m = k) ∧ (11 ≤ k → m = 11) ∧ i = .int .i64 k ∧ v = .slice X m c' ∧ m ≤ c' ∧ wr.ownsRow w.heap.size 23 1 (.slice X m c') m vs ∧
      RowVals wr (Value.slice X m c').ownBlock vs ((L.take m).map (List.take 11)) ∧ Below w.heap.size w wr) (fun _ i _ => L.length - (intOf i).toNat)
  case atStart => exact ⟨0, 0, 0, none, [], by omega, by omega, by omega, fun _ => rfl, fun h => absurd h (by omega), rfl, rfl, by omega, World.ownsRow_nil _ _ _ _, RowVals.nil_, Below.refl _ _⟩
  case round =>
    obtain ⟨k, m, c', X, vs, hk, hm11, hmk, hmlt, hmge, rfl, rfl, hmc, hown, hrv, hbel⟩ := hrel
    have HOW := hide hown
    have HRV := hide hrv
    clear hown hrv
    by_cases hlt : k < L.length
    · obtain ⟨b, o, A', n', c1, rfl, hb, hc, hx, hle, hI⟩ := (hA1.below hbel).at_ hlt
      by_cases h11 : k < 11
      · obtain rfl : m = k := hmlt h11
        have hn' : n' ≤ 9223372036854775807 := by rw [← hx.out]; exact HR.out _ (getD_mem hlt)
        have HLI := hide (list_any A' n' c1 w.heap.size (L.getD m []) wr hx.out hle hn' hI)
        generalize hq : ((L.getD m []).take 11).length = q at HLI
        have HQ := hide hq
        clear hq
        clear hI hmlt hmge
        go_wp2_with (first
          | (go_at_call 25; refine (HLI.out).mono ?_; rintro e w1 ⟨A2, c2, rfl, hl2, hI2, hb2, hlow⟩; have HOW1 := hide (HOW.out.kept (row := none) (w' := w1) ⟨hb2.os, hb2.tape, hb2.output, hb2.size, fun k hk _ => hb2.block k hk⟩ (by
              cases h : (Value.slice X m c').ownBlock
              · exact .inl rfl
              · exact .inr (by simp))); have HRV1 := hide (HRV.out.next hb2); have HI2 := hide hI2; have HLOW := hide hlow; clear hI2 hlow)
          | (at_builtin; refine wpList_app1 (w0 := w1) _ _ 22 23 (.slice none 0 0) 24 rfl rfl Try.underlying22 info_ints rfl w.heap.size (.slice X m c') m vs (.slice A2 q c2) rfl rfl rfl ⟨_, rfl⟩ HOW1.out rfl (by omega) (by omega) (by have := hbel.size; have := hb2.size; omega) ?_; intro g cg w2 hown2 hc2 hc2m hg2 hgl hgrow; have HOW2 := hide hown2; have HG := hide hgrow; have HG2 := hide hg2; clear hown2 hgrow hg2))
        go_roundw
        case rel =>
          refine ⟨m + 1, m + 1, cg, some ⟨g, 0, none⟩, _, by omega, by omega, by omega, fun _ => rfl, fun _ => by omega, by go_num, rfl, hc2, HOW2.out, ?_, ?_⟩
          · rw [fewV_step L m hlt h11]
            refine HRV1.out.snoc HG.out HG2.out HQ.out hl2 HI2.out (fun _ => off_own (n := q) (c := c2) fun gg hq => ?_)
            intro e
            have h1 := HLOW.out gg hq
            have h2 := (own_lt HOW.out gg e.symm).2
            omega
          · exact (hbel.trans (hb2.mono hbel.size)).grown HG.out (by have := hbel.size; have := hb2.size; omega) (fun q hq => (own_lt HOW.out q hq).1)
        case measure => simp [intOf]; omega
      · obtain rfl : m = 11 := hmge (by omega)
        clear hmlt hmge hI
        go_wp2
        go_roundw
        case rel => exact ⟨k + 1, 11, c', X, vs, by omega, by omega, by omega, fun h => absurd h (by omega), fun _ => rfl, by go_num, rfl, hmc, HOW.out, HRV.out, hbel⟩
        case measure => simp [intOf]; omega
    · have hfl : (L.take m).map (List.take 11) = fewV L := by
        unfold fewV
        rcases Nat.lt_or_ge k 11 with h | h
        · rw [hmlt h, List.take_of_length_le (by omega), List.take_of_length_le (by omega)]
        · rw [hmge h]
      have hml : m = (fewV L).length := by rw [← hfl]; simp; omega
      have HFL := hide hfl
      have HML := hide hml
      clear hfl hml hmlt hmge
      go_wp2
      go_ret
      refine ⟨X, c', vs, ?_, by rw [← HML.out]; exact hmc, ?_, ?_, hbel⟩
      · rw [← HML.out]; rfl
      · rw [← HML.out]; exact HOW.out
      · rw [← HML.out, ← HFL.out]; exact HRV.out
theorem few_any (A : Option Addr) (n c B : Nat) (L : List (List Int)) (w : World) (hn : L.length = n) (hlen : n ≤ 9223372036854775807) (hrow : ∀ l ∈ L, l.length ≤ 9223372036854775807) (hA : RowsA w B A L) :
    Calls Try.prog 21 #[.slice A n c] w fun e w' => ∃ A' c', e = .returned (.slice A' (fewV L).length c') ∧ (fewV L).length ≤ c' ∧ RowsA w' w'.heap.size A' (fewV L) ∧ Below w.heap.size w w' :=
  (few_own A n c B L w hn hlen hrow hA).mono fun e w' ⟨A', c', vs, h1, h2, h3, h4, h5⟩ => ⟨A', c', h1, h2, rows_of h4 h3, h5⟩
end Go.Proofs.Ytejijddfepgnkaa
