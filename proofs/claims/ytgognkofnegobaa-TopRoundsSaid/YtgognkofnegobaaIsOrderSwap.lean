/-
  isOrder: whether a list is all numbers below n, each once.
-/
import Derived.Test.YtgognkofnegobaaProg
import Derived.Test.YtgognkofnegobaaBase
namespace Go.Proofs.Ytgognkofnegobaa
set_option linter.unusedVariables false
set_option linter.unusedSimpArgs false
open Go.RowKit
set_option maxHeartbeats 400000 in
theorem isOrder_any (A : Option Addr) (n c B m : Nat) (l : List Int) (w : World) (hn : l.length = n) (hlen : n ≤ 9223372036854775807) (hm : m ≤ 60) (hA : IntsA w B A l) :
    Calls Try.prog 42 #[.slice A n c, .int .i64 m] w fun e w' => e = .returned (.bool (ordB l m)) ∧ w = w' := by
  subst hn
  generalize hid : ordB l m = r
  have HI := hide hid; clear hid
  go_enter Try.func42, Try.ntmps42
  go_wp2
  go_loop [5, 10] (fun s i => ∃ k M : Nat, k ≤ l.length ∧ i = .int .i64 k ∧ s = .int .i64 M ∧ Hid (MaskOf M (l.take k) ∧ (∀ x ∈ l.take k, 0 ≤ x ∧ x < (m : Int)))) (fun _ i => l.length - (intOf i).toNat)
  case atStart => exact ⟨0, 0, Nat.zero_le _, rfl, rfl, maskOf_nil, fun x hx => by simp at hx⟩
  case round =>
    obtain ⟨k, M, hk, rfl, rfl, HM⟩ := hrel
    have hM62 : M < 2 ^ 60 := Nat.lt_of_lt_of_le (maskOf_lt HM.out.1 HM.out.2) (Nat.pow_le_pow_right (by decide) hm)
    by_cases hlt : k < l.length
    · obtain ⟨b, o, x, rfl, hb, hc, hx⟩ := hA.at_ hlt
      have hmem : Hid (x ∈ l) := by
        rw [← hx.out, List.getD_eq_getElem?_getD, List.getElem?_eq_getElem hlt]; exact List.getElem_mem hlt
      have hbad : ¬ (0 ≤ x ∧ x < (m : Int)) → Hid (r = false) := fun hne => by
        show r = false
        rw [← HI.out]
        cases h : ordB l m with
        | false => rfl
        | true => exact absurd ((ordB_iff.1 h).2.1 x hmem.out) hne
      by_cases h0 : x < 0
      · have hr := hbad (by omega)
        clear hbad
        go_wp2
        go_ret
        exact ⟨by rw [hr.out]; rfl, rfl⟩
      · by_cases h1 : (m : Int) ≤ x
        · have hr := hbad (by omega)
          clear hbad
          go_wp2
          go_ret
          exact ⟨by rw [hr.out]; rfl, rfl⟩
        · obtain ⟨y, rfl⟩ := Int.eq_ofNat_of_zero_le (show 0 ≤ x by omega)
          have hy : y < m := by omega
          clear hbad
          go_wp2
          go_round
          case rel =>
            refine ⟨k + 1, M ||| 2 ^ y, by omega, by go_num, ?_, ?_⟩
            · have h2 : (2 : Nat) ^ y < 2 ^ 60 := Nat.pow_lt_pow_right (by decide) (by omega)
              rw [shl_one y (by omega), bor_nat M _ (by omega) (by omega)]
            · show MaskOf _ _ ∧ _
              rw [take_snoc_int l k hlt, hx.out]
              refine ⟨maskOf_snoc HM.out.1 y, fun z hz => ?_⟩
              simp only [List.mem_append, List.mem_singleton] at hz
              rcases hz with hz | rfl
              · exact HM.out.2 z hz
              · omega
          case measure => simp [intOf]; omega
    · have ht : l.take k = l := List.take_of_length_le (by omega)
      have HM' : Hid (MaskOf M l ∧ (∀ x ∈ l, 0 ≤ x ∧ x < (m : Int))) := by have := HM.out; rw [ht] at this; exact this
      clear ht HM
      by_cases hlm : l.length = m
      · have hB : ((l.length : Int) == (m : Int)) = true := by simp [hlm]
        have HL := hide hlm; clear hlm
        go_wp2
        go_ret
        refine ⟨?_, rfl⟩
        rw [← HI.out]
        have e1 : ordB l m = ((M : Int) == wrap64 (wrap64 (2 ^ m) - 1)) := by
          rw [full_nat m (by omega), Bool.eq_iff_iff, ordB_iff]
          have hf := maskOf_full HM'.out.1 HM'.out.2
          simp only [beq_iff_eq]
          constructor
          · rintro ⟨_, _, h3⟩; rw [hf.2 h3]
          · intro h; exact ⟨HL.out, HM'.out.2, hf.1 (by omega)⟩
        rw [e1]
        rfl
      · have hB : ((l.length : Int) == (m : Int)) = false := by simp; omega
        have HL : Hid (¬ l.length = m) := hlm
        clear hlm
        go_wp2
        go_ret
        refine ⟨?_, rfl⟩
        have e1 : ordB l m = false := by
          cases h : ordB l m with
          | false => rfl
          | true => exact absurd (ordB_iff.1 h).1 HL.out
        rw [← HI.out, e1]
        rfl
end Go.Proofs.Ytgognkofnegobaa
