/-
  What Few copies lies in blocks of its own.
-/
import Derived.Test.YtejijddfepgnkaaFewVote
import Derived.Test.YtejijddfepgnkaaCloneOwn
import Derived.Test.YtejijddfepgnkaaRowBlks
namespace Go.Proofs.Ytejijddfepgnkaa
open Go.RowKit
set_option linter.unusedVariables false
set_option linter.unusedSimpArgs false

set_option maxHeartbeats 400000 in
theorem list_own (A : Option Addr) (n c B : Nat) (l : List Int) (w : World) (hn : l.length = n) (hc : n ≤ c) (hlen : n ≤ 9223372036854775807) (hA : IntsA w B A l) :
    Calls Try.prog 25 #[.slice A n c] w fun e w' => ∃ A' c', e = .returned (.slice A' (l.take 11).length c') ∧ (l.take 11).length ≤ c' ∧ IntsA w' w'.heap.size A' (l.take 11) ∧ Below w.heap.size w w' ∧
      w'.ownsRow w.heap.size 3 1 (.slice A' (l.take 11).length c') (l.take 11).length ((l.take 11).map (Value.int .i64)) := by
  have hm : (l.take 11).length = min n 11 := by rw [List.length_take, hn, Nat.min_comm]
  generalize hk : (l.take 11).length = k
  have HC := hide (clone_own A k c B (l.take 11) w hk (by omega) (hA.take 11))
  have HN := hide hn
  have hkm : k = min n 11 := by omega
  clear hn hm hk
  rcases Nat.lt_or_ge 11 n with h11 | h11
  · obtain rfl : k = 11 := by omega
    clear hkm
    go_enter Try.func25, Try.ntmps25
    go_wp2_with (go_at_call 63; refine (HC.out).mono ?_; rintro e w' ⟨A', c', rfl, h1, h2, h3, h4, h6, h5⟩; have H5 := hide h5; clear h5 h6)
    go_ret
    exact ⟨A', c', rfl, h1, h2, h4, H5.out⟩
  · obtain rfl : n = k := by omega
    clear hkm
    go_enter Try.func25, Try.ntmps25
    go_wp2_with (go_at_call 63; refine (HC.out).mono ?_; rintro e w' ⟨A', c', rfl, h1, h2, h3, h4, h6, h5⟩; have H5 := hide h5; clear h5 h6)
    go_ret
    exact ⟨A', c', rfl, h1, h2, h4, H5.out⟩

set_option maxHeartbeats 800000 in
theorem few_blks (A : Option Addr) (n c B : Nat) (L : List (List Int)) (w : World) (hn : L.length = n) (hlen : n ≤ 9223372036854775807) (hrow : ∀ l ∈ L, l.length ≤ 9223372036854775807) (hA : RowsA w B A L) :
    Calls Try.prog 21 #[.slice A n c] w fun e w' => ∃ A' c' vs blk lim, e = .returned (.slice A' (fewV L).length c') ∧ (fewV L).length ≤ c' ∧ w'.ownsRow w.heap.size 23 1 (.slice A' (fewV L).length c') (fewV L).length vs ∧ RowBlks w' w.heap.size (Value.slice A' (fewV L).length c').ownBlock vs (fewV L) blk lim ∧ Below w.heap.size w w' := by
  subst hn
  have hA1 := hA.top
  have HR := hide hrow
  clear hrow
  go_enter Try.func21, Try.ntmps21
  go_wp2
  go_loopw [3, 8] (fun v i wr => ∃ (k m c' : Nat) (X : Option Addr) (vs : List Value) (blk : Nat → Nat) (lim : Nat), k ≤ L.length ∧ m ≤ 11 ∧ m ≤ k ∧ (k < 11 → m = k) ∧ (11 ≤ k → m = 11) ∧ i = .int .i64 k ∧ v = .slice X m c' ∧ m ≤ c' ∧ wr.ownsRow w.heap.size 23 1 (.slice X m c') m vs ∧
      RowBlks wr w.heap.size (Value.slice X m c').ownBlock vs ((L.take m).map (List.take 11)) blk lim ∧ Below w.heap.size w wr) (fun _ i _ => L.length - (intOf i).toNat)
  case atStart => exact ⟨0, 0, 0, none, [], fun _ => 0, 0, by omega, by omega, by omega, fun _ => rfl, fun h => absurd h (by omega), rfl, rfl, by omega, World.ownsRow_nil _ _ _ _, RowBlks.nil_, Below.refl _ _⟩
  case round =>
    obtain ⟨k, m, c', X, vs, blk, lim, hk, hm11, hmk, hmlt, hmge, rfl, rfl, hmc, hown, hrv, hbel⟩ := hrel
    have HOW := hide hown
    have HRV := hide hrv
    clear hown hrv
    by_cases hlt : k < L.length
    · obtain ⟨b, o, A', n', c1, rfl, hb, hc, hx, hle, hI⟩ := (hA1.below hbel).at_ hlt
      by_cases h11 : k < 11
      · obtain rfl : m = k := hmlt h11
        have hn' : n' ≤ 9223372036854775807 := by rw [← hx.out]; exact HR.out _ (getD_mem hlt)
        have HLI := hide (list_own A' n' c1 w.heap.size (L.getD m []) wr hx.out hle hn' hI)
        generalize hq : ((L.getD m []).take 11).length = q at HLI
        have HQ := hide hq
        clear hq
        clear hI hmlt hmge
        go_wp2_with (first
          | (go_at_call 25; refine (HLI.out).mono ?_; rintro e w1 ⟨A2, c2, rfl, hl2, hI2, hb2, hlow⟩; have HOW1 := hide (HOW.out.kept (row := none) (w' := w1) ⟨hb2.os, hb2.tape, hb2.output, hb2.size, fun k hk _ => hb2.block k hk⟩ (by
              cases h : (Value.slice X m c').ownBlock
              · exact .inl rfl
              · exact .inr (by simp))); have HRV1 := hide (HRV.out.keep hb2.size (fun k hk _ => hb2.block k hk)); have HI2 := hide hI2; have HLOW := hide hlow; clear hI2 hlow)
          | (at_builtin; refine wpList_app1 (w0 := w1) _ _ 22 23 (.slice none 0 0) 24 rfl rfl Try.underlying22 info_ints rfl w.heap.size (.slice X m c') m vs (.slice A2 q c2) rfl rfl rfl ⟨_, rfl⟩ HOW1.out rfl (by omega) (by omega) (by have := hbel.size; have := hb2.size; omega) ?_; intro g cg w2 hown2 hc2 hc2m hg2 hgl hgrow; have HOW2 := hide hown2; have HG := hide hgrow; have HG2 := hide hg2; clear hown2 hgrow hg2))
        go_roundw
        case rel =>
          obtain ⟨blk2, hblk2⟩ := HRV1.out.snoc HG.out HG2.out HQ.out hl2 HLOW.out hbel.size HRV.out.lim_le (fun q hq => (own_lt HOW.out q hq).2)
          rw [← fewV_step L m hlt h11] at hblk2
          refine ⟨m + 1, m + 1, cg, some ⟨g, 0, none⟩, _, blk2, _, by omega, by omega, by omega, fun _ => rfl, fun _ => by omega, by go_num, rfl, hc2, HOW2.out, hblk2, ?_⟩
          · exact (hbel.trans (hb2.mono hbel.size)).grown HG.out (by have := hbel.size; have := hb2.size; omega) (fun q hq => (own_lt HOW.out q hq).1)
        case measure => simp [intOf]; omega
      · obtain rfl : m = 11 := hmge (by omega)
        clear hmlt hmge hI
        go_wp2
        go_roundw
        case rel => exact ⟨k + 1, 11, c', X, vs, blk, lim, by omega, by omega, by omega, fun h => absurd h (by omega), fun _ => rfl, by go_num, rfl, hmc, HOW.out, HRV.out, hbel⟩
        case measure => simp [intOf]; omega
    · have hfl : (L.take m).map (List.take 11) = fewV L := by
        unfold fewV
        rcases Nat.lt_or_ge k 11 with h | h
        · rw [hmlt h, List.take_of_length_le (by omega), List.take_of_length_le (by omega)]
        · rw [hmge h]
      have hml : m = (fewV L).length := by rw [← hfl]; simp; omega
      have HFL := hide hfl
      have HML := hide hml
      clear hfl hml hmlt hmge
      go_wp2
      go_ret
      refine ⟨X, c', vs, blk, lim, ?_, by rw [← HML.out]; exact hmc, ?_, ?_, hbel⟩
      · rw [← HML.out]; rfl
      · rw [← HML.out]; exact HOW.out
      · rw [← HML.out, ← HFL.out]; exact HRV.out
end Go.Proofs.Ytejijddfepgnkaa
