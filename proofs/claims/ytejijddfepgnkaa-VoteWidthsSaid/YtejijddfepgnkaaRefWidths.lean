/-
  The reference's Widths.
-/
import Derived.Test.YtejijddfepgnkaaWidEq
import Derived.Test.YtejijddfepgnkaaStrPlain
import Derived.Test.YtejijddfepgnkaaRowsM
import Derived.Test.YtejijddfepgnkaaMargEq
import Derived.Test.YtejijddfepgnkaaInfo
namespace Go.Proofs.Ytejijddfepgnkaa
open Go.RowKit
set_option linter.unusedVariables false
set_option linter.unusedSimpArgs false

set_option maxRecDepth 100000 in
set_option maxHeartbeats 3200000 in
theorem refWidths_any (A : Option Addr) (v n c : Nat) (W : List (List Nat)) (w : World) (hW : BOk W v n) (hA : RowsA w w.heap.size A (upp W)) :
    Calls Try.prog 45 #[.slice A v c] w fun e w' => ∃ X c', e = .returned (.slice X n c') ∧ n ≤ c' ∧ RowsA w' w'.heap.size X (rowsZ (widM n (margM W)) n) ∧ Below w.heap.size w w' := by
  have hn5 := hW.nle
  have hn1 := hW.npos
  have HRM : Hid (∀ w', Below w.heap.size w w' → ∀ a b, a < n → b < n → a ≠ b → Calls Try.prog 71 #[.slice A v c, .int .i64 (a : Nat), .int .i64 (b : Nat)] w' fun e w'' => e = .returned (.int .i64 (widM n (margM W) a b)) ∧ Below w'.heap.size w' w'') := fun w' hw' a b ha hb hab => by
    rw [widM_eq hW ha hb hab]
    exact width_any A v n c a b W w' hW ha hb (hA.next hw')
  have HZ : Hid (∀ a, a < n → widM n (margM W) a a = 0) := fun a ha => by
    rw [widM_self]
    have := marg_anti hW a a ha ha
    omega
  obtain ⟨b0, o0, A0, n', c0, rfl, hb0, hc0, hx0, hle0, hI0⟩ := hA.at_ (k := 0) (by rw [upp_length, hW.len]; exact hW.pos)
  rw [Nat.add_zero] at hc0
  obtain rfl : n = n' := by have := hx0.out; rw [upp_getD, up_length, (hW.rows 0 hW.pos).len] at this; exact this
  have hi0 : (0 : Int) < (v : Int) := by have := hW.pos; omega
  have HC0 : Hid (∀ w', Below w.heap.size w w' → w'.cell? ⟨b0, o0, none⟩ = some (.slice A0 n c0)) := fun w' hb => (hb.cell (p := ⟨b0, o0, none⟩) hb0).trans hc0
  generalize (widM n (margM W)) = M at *
  clear hA hI0 hx0 hle0 hW
  go_enter Try.func45, Try.ntmps45
  go_wp2
  go_loopw [3, 12] (fun v i wr => ∃ (k c' : Nat) (X : Option Addr) (vs : List Value), k ≤ n ∧ i = .int .i64 k ∧ v = .slice X k c' ∧ k ≤ c' ∧ wr.ownsRow w.heap.size 23 1 (.slice X k c') k vs ∧
      RowVals wr (Value.slice X k c').ownBlock vs ((rowsZ M n).take k) ∧ Below w.heap.size w wr) (fun _ i _ => n - (intOf i).toNat)
  case atStart => exact ⟨0, 0, none, [], by omega, rfl, rfl, by omega, World.ownsRow_nil _ _ _ _, RowVals.nil_, Below.refl _ _⟩
  case round =>
    clear hc0
    obtain ⟨k, c', X, vs, hk, rfl, rfl, hkc, hown, hrv, hbel⟩ := hrel
    have HOW := hide hown
    have HRV := hide hrv
    clear hown hrv
    by_cases hlt : k < n
    · have hst : (rowsZ M n).take (k + 1) = (rowsZ M n).take k ++ [rowZ M n k] := by
        rw [List.take_add_one]
        simp [rowsZ, hlt]
      have HSTEP := hide hst
      have hc0 := HC0.out _ hbel
      clear hst
      go_wp2
      obtain ⟨wp, rfl⟩ : ∃ wp : World, wp = wr := ⟨_, rfl⟩
      have HBP := hide hbel
      go_loopw [5, 19] (fun v i wr => ∃ (b c1 : Nat) (H : Option Addr), b ≤ n ∧ i = .int .i64 b ∧ v = .slice H b c1 ∧ b ≤ c1 ∧ wr.ownsRow wp.heap.size 3 1 (.slice H b c1) b (((List.range b).map (M k)).map (Value.int .i64)) ∧ Below wp.heap.size wp wr) (fun _ i _ => n - (intOf i).toNat)
      case atStart => exact ⟨0, 0, none, by omega, rfl, rfl, by omega, World.ownsRow_nil _ _ _ _, Below.refl _ _⟩
      case round =>
        clear hc0
        obtain ⟨b, c1, H, hb, rfl, rfl, hbc, hown, hbel2⟩ := hrel
        have HOI := hide hown
        have hbw := hbel.trans (hbel2.mono hbel.size)
        have hc0 := HC0.out _ hbw
        clear hown
        by_cases hltb : b < n
        · have hst : ((List.range (b + 1)).map (M k)).map (Value.int .i64) = ((List.range b).map (M k)).map (Value.int .i64) ++ [Value.int .i64 (M k b)] := by simp [List.range_succ]
          have HS2 := hide hst
          clear hst
          by_cases hkb : k = b
          · subst hkb
            have hz := HZ.out k hlt
            rw [hz] at HS2
            have e1 : ((k : Int) != (k : Int)) = false := by simp
            clear hz
            go_wp2_with ((at_builtin); refine wpList_app1 (w0 := wr) _ _ 23 3 (.int .i64 0) 8 rfl rfl Try.underlying23 info_int rfl wp.heap.size (.slice H k c1) k _ (.int .i64 0) rfl rfl rfl ⟨_, rfl⟩ HOI.out rfl (by omega) (by omega) (by have := hbel2.size; omega) ?_; intro g cg w1 hown1 hc1 hc1m hg1 hgl hgrow; have HOW1 := hide hown1; have HG := hide hgrow; clear hown1 hgrow)
            go_roundw
            case rel =>
              refine ⟨k + 1, cg, some ⟨g, 0, none⟩, by omega, by go_num, rfl, hc1, ?_, hbel2.grown HG.out hbel2.size (fun q hq => (own_lt HOI.out q hq).1)⟩
              rw [HS2.out]; exact HOW1.out
            case measure => simp [intOf]; omega
          · have HM := hide (HRM.out wr hbw k b hlt hltb hkb)
            generalize M k b = z at HS2 HM
            have e1 : ((k : Int) != (b : Int)) = true := by simp; omega
            go_wp2_with (first
              | (go_at_call 71; refine (HM.out).mono ?_; rintro e w2 ⟨rfl, hb2⟩; have HOI2 := hide (HOI.out.kept (row := none) (w' := w2) ⟨hb2.os, hb2.tape, hb2.output, hb2.size, fun k hk _ => hb2.block k hk⟩ (by
                  cases h : (Value.slice H b c1).ownBlock
                  · exact .inl rfl
                  · exact .inr (by simp))))
              | (at_builtin; refine wpList_app1 (w0 := w2) _ _ 23 3 (.int .i64 0) 8 rfl rfl Try.underlying23 info_int rfl wp.heap.size (.slice H b c1) b _ (.int .i64 z) rfl rfl rfl ⟨_, rfl⟩ HOI2.out rfl (by omega) (by omega) (by have := hbel2.size; have := hb2.size; omega) ?_; intro g cg w1 hown1 hc1 hc1m hg1 hgl hgrow; have HOW1 := hide hown1; have HG := hide hgrow; clear hown1 hgrow))
            go_roundw
            case rel =>
              refine ⟨b + 1, cg, some ⟨g, 0, none⟩, by omega, by go_num, rfl, hc1, ?_, (hbel2.trans (hb2.mono hbel2.size)).grown HG.out (by have := hbel2.size; have := hb2.size; omega) (fun q hq => (own_lt HOI.out q hq).1)⟩
              rw [HS2.out]; exact HOW1.out
            case measure => simp [intOf]; omega
        · obtain rfl : n = b := by omega
          have hI := ints_of_own HOI.out
          rw [show (List.range n).map (M k) = rowZ M n k from rfl] at hI
          have HI := hide hI
          have HLOW := hide (own_lt HOI.out)
          have HOW1 := hide (HOW.out.kept (row := none) (w' := wr) ⟨hbel2.os, hbel2.tape, hbel2.output, hbel2.size, fun k hk _ => hbel2.block k hk⟩ (by
              cases h : (Value.slice X k c').ownBlock
              · exact .inl rfl
              · exact .inr (by simp)))
          have HRV1 := hide (HRV.out.next hbel2)
          clear hI
          go_wp2_with ((at_builtin); refine wpList_app1 (w0 := wr) _ _ 22 23 (.slice none 0 0) 24 rfl rfl Try.underlying22 info_ints rfl w.heap.size (.slice X k c') k vs (.slice H n c1) rfl rfl rfl ⟨_, rfl⟩ HOW1.out rfl (by omega) (by omega) (by have := hbw.size; omega) ?_; intro g cg w3 hown2 hc2 hc2m hg2 hgl hgrow; have HOW2 := hide hown2; have HG := hide hgrow; have HG2 := hide hg2; clear hown2 hgrow hg2)
          go_roundw
          case rel =>
            refine ⟨k + 1, cg, some ⟨g, 0, none⟩, _, by omega, by go_num, rfl, hc2, HOW2.out, ?_, ?_⟩
            · rw [HSTEP.out]
              refine HRV1.out.snoc HG.out HG2.out (rowZ_len M n k) hbc HI.out (fun _ => off_own (n := n) (c := c1) fun gg hq => ?_)
              intro e
              have h1 := (HLOW.out gg hq).1
              have h2 := (own_lt HOW.out gg e.symm).2
              omega
            · exact hbw.grown HG.out (by have := hbw.size; omega) (fun q hq => (own_lt HOW.out q hq).1)
          case measure => simp [intOf]; omega
    · obtain rfl : n = k := by omega
      have hrows := rows_of HRV.out HOW.out
      rw [List.take_of_length_le (by simp [rowsZ])] at hrows
      have HROWS := hide hrows
      have hc0 := HC0.out _ hbel
      clear hrows
      go_wp2
      go_ret
      exact ⟨X, c', rfl, hkc, HROWS.out, hbel⟩
end Go.Proofs.Ytejijddfepgnkaa
