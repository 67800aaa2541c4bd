/-
  The wishes that wishes copies.
-/
import Derived.Test.YtgognkofnegobaaRefValidT
import Derived.Test.YtgognkofnegobaaEqual
import Derived.Test.YtgognkofnegobaaBase
namespace Go.Proofs.Ytgognkofnegobaa
open Go.RowKit
set_option linter.unusedVariables false
set_option linter.unusedSimpArgs false

theorem IntsA.take {w : World} {B : Nat} {A : Option Addr} {l : List Int} (h : IntsA w B A l) (k : Nat) : IntsA w B A (l.take k) := by
  intro i hi
  simp only [List.length_take] at hi
  obtain ⟨b, o, e, hb, hc⟩ := h i (by omega)
  refine ⟨b, o, e, hb, ?_⟩
  rw [hc]
  simp only [List.getD_eq_getElem?_getD, List.getElem?_take]
  rw [if_pos (by omega)]

theorem fewL_step (L : List (List Int)) (k : Nat) (hk : k < L.length) (h7 : k < 7) : (L.take (k + 1)).map (List.take 7) = (L.take k).map (List.take 7) ++ [(L.getD k []).take 7] := by
  rw [List.take_succ_eq_append_getElem hk, List.map_append, List.getD_eq_getElem?_getD, List.getElem?_eq_getElem hk]; rfl
set_option maxRecDepth 100000 in
set_option maxHeartbeats 1600000 in
theorem wish_own (A : Option Addr) (n c B : Nat) (L : List (List Int)) (w : World) (hn : L.length = n) (hlen : n ≤ 9223372036854775807) (hrow : ∀ l ∈ L, l.length ≤ 9223372036854775807) (hA : RowsA w B A L) :
    Calls Try.prog 15 #[.slice A n c] w fun e w' => ∃ A' c' vs, e = .returned (.slice A' (fewL L).length c') ∧ (fewL L).length ≤ c' ∧ w'.ownsRow w.heap.size 24 1 (.slice A' (fewL L).length c') (fewL L).length vs ∧ RowVals w' (Value.slice A' (fewL L).length c').ownBlock vs (fewL L) ∧ Below w.heap.size w w' := by
  subst hn
  have hA1 := hA.top
  have HR := hide hrow
  clear hrow
  go_enter Try.func15, Try.ntmps15
  go_wp2
  go_loopw [3, 8] (fun v i wr => ∃ (k m c' : Nat) (X : Option Addr) (vs : List Value), k ≤ L.length ∧ m ≤ 7 ∧ m ≤ k ∧ (k < 7 → m = k) ∧ (7 ≤ k → m = 7) ∧ i = .int .i64 k ∧ v = .slice X m c' ∧ m ≤ c' ∧ wr.ownsRow w.heap.size 24 1 (.slice X m c') m vs ∧
      RowVals wr (Value.slice X m c').ownBlock vs ((L.take m).map (List.take 7)) ∧ Below w.heap.size w wr) (fun _ i _ => L.length - (intOf i).toNat)
  case atStart => exact ⟨0, 0, 0, none, [], by omega, by omega, by omega, fun _ => rfl, fun h => absurd h (by omega), rfl, rfl, by omega, World.ownsRow_nil _ _ _ _, RowVals.nil_, Below.refl _ _⟩
  case round =>
    obtain ⟨k, m, c', X, vs, hk, hm7, hmk, hmlt, hmge, rfl, rfl, hmc, hown, hrv, hbel⟩ := hrel
    have HOW := hide hown
    have HRV := hide hrv
    clear hown hrv
    by_cases hlt : k < L.length
    · obtain ⟨b, o, A', n', c1, rfl, hb, hc, hx, hle, hI⟩ := (hA1.below hbel).at_ hlt
      by_cases h7 : k < 7
      · obtain rfl : m = k := hmlt h7
        have hn' : n' ≤ 9223372036854775807 := by rw [← hx.out]; exact HR.out _ (getD_mem hlt)
        generalize hq : ((L.getD m []).take 7).length = q
        have hqm : q = min n' 7 := by rw [← hq, List.length_take, hx.out, Nat.min_comm]
        have HCL := hide (clone_any A' q c1 w.heap.size ((L.getD m []).take 7) wr hq (by omega) (hI.take 7))
        have HQ := hide hq
        clear hq
        clear hI hmlt hmge
        rcases Nat.lt_or_ge 7 n' with h7' | h7'
        · obtain rfl : q = 7 := by omega
          clear hqm
          go_wp2_with (first
            | (go_at_call 22; refine (HCL.out).mono ?_; rintro e w1 ⟨A2, c2, rfl, hl2, hI2, hxxx, hb2, hlow⟩; have HOW1 := hide (HOW.out.kept (row := none) (w' := w1) ⟨hb2.os, hb2.tape, hb2.output, hb2.size, fun k hk _ => hb2.block k hk⟩ (by
                cases h : (Value.slice X m c').ownBlock
                · exact .inl rfl
                · exact .inr (by simp))); have HRV1 := hide (HRV.out.next hb2); have HI2 := hide hI2; have HLOW := hide hlow; clear hI2 hlow)
            | (at_builtin; refine wpList_app1 (w0 := w1) _ _ 22 24 (.slice none 0 0) 24 rfl rfl Try.underlying22 info_ints rfl w.heap.size (.slice X m c') m vs (.slice A2 7 c2) rfl rfl rfl ⟨_, rfl⟩ HOW1.out rfl (by omega) (by omega) (by have := hbel.size; have := hb2.size; omega) ?_; intro g cg w2 hown2 hc2 hc2m hg2 hgl hgrow; have HOW2 := hide hown2; have HG := hide hgrow; have HG2 := hide hg2; clear hown2 hgrow hg2))
          go_roundw
          case rel =>
            refine ⟨m + 1, m + 1, cg, some ⟨g, 0, none⟩, _, by omega, by omega, by omega, fun _ => rfl, fun _ => by omega, by go_num, rfl, hc2, HOW2.out, ?_, ?_⟩
            · rw [fewL_step L m hlt h7]
              refine HRV1.out.snoc HG.out HG2.out HQ.out hl2 HI2.out (fun _ => off_own (n := 7) (c := c2) fun gg hq => ?_)
              intro e
              have h1 := HLOW.out gg hq
              have h2 := (own_lt HOW.out gg e.symm).2
              omega
            · exact (hbel.trans (hb2.mono hbel.size)).grown HG.out (by have := hbel.size; have := hb2.size; omega) (fun q hq => (own_lt HOW.out q hq).1)
          case measure => simp [intOf]; omega
        · obtain rfl : n' = q := by omega
          clear hqm
          go_wp2_with (first
            | (go_at_call 22; refine (HCL.out).mono ?_; rintro e w1 ⟨A2, c2, rfl, hl2, hI2, hxxx, hb2, hlow⟩; have HOW1 := hide (HOW.out.kept (row := none) (w' := w1) ⟨hb2.os, hb2.tape, hb2.output, hb2.size, fun k hk _ => hb2.block k hk⟩ (by
                cases h : (Value.slice X m c').ownBlock
                · exact .inl rfl
                · exact .inr (by simp))); have HRV1 := hide (HRV.out.next hb2); have HI2 := hide hI2; have HLOW := hide hlow; clear hI2 hlow)
            | (at_builtin; refine wpList_app1 (w0 := w1) _ _ 22 24 (.slice none 0 0) 24 rfl rfl Try.underlying22 info_ints rfl w.heap.size (.slice X m c') m vs (.slice A2 n' c2) rfl rfl rfl ⟨_, rfl⟩ HOW1.out rfl (by omega) (by omega) (by have := hbel.size; have := hb2.size; omega) ?_; intro g cg w2 hown2 hc2 hc2m hg2 hgl hgrow; have HOW2 := hide hown2; have HG := hide hgrow; have HG2 := hide hg2; clear hown2 hgrow hg2))
          go_roundw
          case rel =>
            refine ⟨m + 1, m + 1, cg, some ⟨g, 0, none⟩, _, by omega, by omega, by omega, fun _ => rfl, fun _ => by omega, by go_num, rfl, hc2, HOW2.out, ?_, ?_⟩
            · rw [fewL_step L m hlt h7]
              refine HRV1.out.snoc HG.out HG2.out HQ.out hl2 HI2.out (fun _ => off_own (n := n') (c := c2) fun gg hq => ?_)
              intro e
              have h1 := HLOW.out gg hq
              have h2 := (own_lt HOW.out gg e.symm).2
              omega
            · exact (hbel.trans (hb2.mono hbel.size)).grown HG.out (by have := hbel.size; have := hb2.size; omega) (fun q hq => (own_lt HOW.out q hq).1)
          case measure => simp [intOf]; omega
      · obtain rfl : m = 7 := hmge (by omega)
        clear hmlt hmge hI
        go_wp2
        go_roundw
        case rel => exact ⟨k + 1, 7, c', X, vs, by omega, by omega, by omega, fun h => absurd h (by omega), fun _ => rfl, by go_num, rfl, hmc, HOW.out, HRV.out, hbel⟩
        case measure => simp [intOf]; omega
    · have hfl : (L.take m).map (List.take 7) = fewL L := by
        unfold fewL
        rcases Nat.lt_or_ge k 7 with h | h
        · rw [hmlt h, List.take_of_length_le (by omega), List.take_of_length_le (by omega)]
        · rw [hmge h]
      have hml : m = (fewL L).length := by rw [← hfl]; simp; omega
      have HFL := hide hfl
      have HML := hide hml
      clear hfl hml hmlt hmge
      go_wp2
      go_ret
      refine ⟨X, c', vs, ?_, by rw [← HML.out]; exact hmc, ?_, ?_, hbel⟩
      · rw [← HML.out]; rfl
      · rw [← HML.out]; exact HOW.out
      · rw [← HML.out, ← HFL.out]; exact HRV.out
theorem wish_any (A : Option Addr) (n c B : Nat) (L : List (List Int)) (w : World) (hn : L.length = n) (hlen : n ≤ 9223372036854775807) (hrow : ∀ l ∈ L, l.length ≤ 9223372036854775807) (hv : validB L = true) (hA : RowsA w B A L) :
    Calls Try.prog 15 #[.slice A n c] w fun e w' => ∃ A' c', e = .returned (.slice A' n c') ∧ n ≤ c' ∧ RowsA w' w'.heap.size A' L ∧ Below w.heap.size w w' :=
  (wish_own A n c B L w hn hlen hrow hA).mono fun e w' ⟨A', c', vs, h1, h2, h3, h4, h5⟩ => by
    rw [few_same hv, hn] at h1 h2
    rw [few_same hv] at h3 h4
    exact ⟨A', c', h1, h2, rows_of h4 h3, h5⟩
end Go.Proofs.Ytgognkofnegobaa
