/-
  The walk of SwapLies.
-/
import Derived.Test.YtilnbiaabhdfgaaRefLie
import Derived.Test.YtilnbiaabhdfgaaLawSwapBetter
namespace Go.Proofs.Ytilnbiaabhdfgaa
open Go.RowKit
set_option linter.unusedVariables false
set_option linter.unusedSimpArgs false

theorem rule_of {y : Int} (h0 : 0 ≤ y) (h2 : y ≤ 2) (n : Nat) : ∃ (rule : Nat) (f : List (List Nat) → List Nat), y = (rule : Int) ∧ rule ≤ 2 ∧ OutOk rule n f ∧ ROutOk rule n f := by
  rcases (by omega : y = 0 ∨ y = 1 ∨ y = 2) with rfl | rfl | rfl
  · exact ⟨0, tradeN, rfl, by omega, out_trading n, rout_trading n⟩
  · exact ⟨1, firstN, rfl, by omega, out_choosing n, rout_choosing n⟩
  · exact ⟨2, askedN, rfl, by omega, out_asking n, rout_asking n⟩
theorem fewLie_no {q : Nat} {L : List (List Int)} {x y : Int} (hq : (fewL L).length = q) (h : validB L = false ∨ validB L = true ∧ (x < 0 ∨ (q : Int) ≤ x ∨ y < 0 ∨ 2 < y)) (A' : Option Addr) (c' : Nat) (w1 : World) (hA : RowsA w1 w1.heap.size A' (fewL L)) :
    Calls Try.prog 45 #[.slice A' q c', .int .i64 x, .int .i64 y] w1 fun e w' => e = .returned (.tuple #[.slice none 0 0, .int .i64 2]) ∧ Below w1.heap.size w1 w' :=
  Lie_no A' q c' _ x y (fewL L) w1 hq (by rw [← hq]; exact few_len L) (few_rows L) hA (by rw [few_valid]; exact h)
theorem okLie {n i rule : Nat} {L : List (List Int)} {W : List (List Nat)} {f : List (List Nat) → List Nat} (h : NatsOf L n W) (hi : i < n) (hr : rule ≤ 2) (hf : OutOk rule n f) (A' : Option Addr) (c' : Nat) (w1 : World) (hA : RowsA w1 w1.heap.size A' L) :
    Calls Try.prog 45 #[.slice A' n c', .int .i64 i, .int .i64 rule] w1 (FindRes (lieN f W n i) w1) := by
  have := Lie_yes A' n c' i rule f L w1 h.len hA h.valid hi hr hf
  rwa [h.toNN] at this
theorem lieN_some {f : List (List Nat) → List Nat} {W : List (List Nat)} {n i : Nat} {l : List Nat} (h : lieN f W n i = some l) : Ord l n ∧ lieP f W i ((f W).getD i 0) l = true :=
  ⟨mem_ordsN.1 (List.mem_of_find?_eq_some h), by simpa using List.find?_some h⟩

set_option maxRecDepth 100000 in
set_option maxHeartbeats 3200000 in
theorem swapLies_any (A : Option Addr) (n c : Nat) (L : List (List Int)) (x y : Int) (w : World) (hn : L.length = n) (hlen : n ≤ 9223372036854775807) (hrow : ∀ l ∈ L, l.length ≤ 9223372036854775807) (hA : RowsA w w.heap.size A L) (hx : -9223372036854775808 ≤ x ∧ x ≤ 9223372036854775807) (hy : -9223372036854775808 ≤ y ∧ y ≤ 9223372036854775807) :
    Calls Try.prog 15 #[.slice A n c, .int .i64 x, .int .i64 y] w fun e w' => e = .returned (.bool true) ∧ Below w.heap.size w w' := by
  obtain ⟨q, hq⟩ : ∃ q, (fewL L).length = q := ⟨_, rfl⟩
  have HFE := hide (few_in (c := c) hn hlen hrow hq hA)
  have HVA := hide (valid_in (c := c) hn hlen hrow hA)
  cases hv : validB L
  · rw [hv] at HVA
    have HLN := hide (fewLie_no (x := x) (y := y) hq (.inl hv))
    clear hv hrow hn hA hq
    go_enter Try.func15, Try.ntmps15
    have hb := Below.refl w.heap.size w
    go_wp2_with fail
    refine (HFE.out _ hb).mono ?_
    rintro e w1 ⟨A1, c1, rfl, hq1, hR1, hbn⟩
    replace hb := hb.trans (hbn.mono hb.size)
    clear hbn
    go_wp2_with fail
    refine (HLN.out _ _ _ hR1).mono ?_
    rintro e w2 ⟨rfl, hbn⟩
    replace hR1 := hR1.next hbn
    replace hb := hb.trans (hbn.mono hb.size)
    clear hbn
    clear hR1
    go_wp2_with fail
    refine (HVA.out _ hb).mono ?_
    rintro e w3 ⟨rfl, rfl⟩
    go_wp2_with fail
    refine (awake_any _).mono ?_
    rintro e w4 ⟨rfl, hbn⟩
    replace hb := hb.trans (hbn.mono hb.size)
    clear hbn
    go_wp2
    go_ret
    exact ⟨rfl, hb⟩
  · rw [hv] at HVA
    have hqn : q = n := by rw [← hq, few_same hv, hn]
    subst hqn
    obtain ⟨W, hW⟩ : ∃ W, NatsOf L q W := ⟨_, nats_of hv hn⟩
    by_cases hbad : x < 0 ∨ (q : Int) ≤ x ∨ y < 0 ∨ 2 < y
    · have HLN := hide (fewLie_no (x := x) (y := y) hq (.inr ⟨hv, hbad⟩))
      clear hv hrow hn hA hq hW
      by_cases h1 : x < 0
      · clear hbad
        go_enter Try.func15, Try.ntmps15
        have hb := Below.refl w.heap.size w
        go_wp2_with fail
        refine (HFE.out _ hb).mono ?_
        rintro e w1 ⟨A1, c1, rfl, hq1, hR1, hbn⟩
        replace hb := hb.trans (hbn.mono hb.size)
        clear hbn
        go_wp2_with fail
        refine (HLN.out _ _ _ hR1).mono ?_
        rintro e w2 ⟨rfl, hbn⟩
        replace hR1 := hR1.next hbn
        replace hb := hb.trans (hbn.mono hb.size)
        clear hbn
        clear hR1
        go_wp2_with fail
        refine (HVA.out _ hb).mono ?_
        rintro e w3 ⟨rfl, rfl⟩
        go_wp2_with fail
        refine (awake_any _).mono ?_
        rintro e w4 ⟨rfl, hbn⟩
        replace hb := hb.trans (hbn.mono hb.size)
        clear hbn
        go_wp2
        go_ret
        exact ⟨rfl, hb⟩
      · by_cases h2 : (q : Int) ≤ x
        · clear hbad
          go_enter Try.func15, Try.ntmps15
          have hb := Below.refl w.heap.size w
          go_wp2_with fail
          refine (HFE.out _ hb).mono ?_
          rintro e w1 ⟨A1, c1, rfl, hq1, hR1, hbn⟩
          replace hb := hb.trans (hbn.mono hb.size)
          clear hbn
          go_wp2_with fail
          refine (HLN.out _ _ _ hR1).mono ?_
          rintro e w2 ⟨rfl, hbn⟩
          replace hR1 := hR1.next hbn
          replace hb := hb.trans (hbn.mono hb.size)
          clear hbn
          clear hR1
          go_wp2_with fail
          refine (HVA.out _ hb).mono ?_
          rintro e w3 ⟨rfl, rfl⟩
          go_wp2_with fail
          refine (awake_any _).mono ?_
          rintro e w4 ⟨rfl, hbn⟩
          replace hb := hb.trans (hbn.mono hb.size)
          clear hbn
          go_wp2
          go_ret
          exact ⟨rfl, hb⟩
        · by_cases h3 : y < 0
          · clear hbad
            go_enter Try.func15, Try.ntmps15
            have hb := Below.refl w.heap.size w
            go_wp2_with fail
            refine (HFE.out _ hb).mono ?_
            rintro e w1 ⟨A1, c1, rfl, hq1, hR1, hbn⟩
            replace hb := hb.trans (hbn.mono hb.size)
            clear hbn
            go_wp2_with fail
            refine (HLN.out _ _ _ hR1).mono ?_
            rintro e w2 ⟨rfl, hbn⟩
            replace hR1 := hR1.next hbn
            replace hb := hb.trans (hbn.mono hb.size)
            clear hbn
            clear hR1
            go_wp2_with fail
            refine (HVA.out _ hb).mono ?_
            rintro e w3 ⟨rfl, rfl⟩
            go_wp2_with fail
            refine (awake_any _).mono ?_
            rintro e w4 ⟨rfl, hbn⟩
            replace hb := hb.trans (hbn.mono hb.size)
            clear hbn
            go_wp2
            go_ret
            exact ⟨rfl, hb⟩
          · have h4 : 2 < y := by omega
            clear hbad
            go_enter Try.func15, Try.ntmps15
            have hb := Below.refl w.heap.size w
            go_wp2_with fail
            refine (HFE.out _ hb).mono ?_
            rintro e w1 ⟨A1, c1, rfl, hq1, hR1, hbn⟩
            replace hb := hb.trans (hbn.mono hb.size)
            clear hbn
            go_wp2_with fail
            refine (HLN.out _ _ _ hR1).mono ?_
            rintro e w2 ⟨rfl, hbn⟩
            replace hR1 := hR1.next hbn
            replace hb := hb.trans (hbn.mono hb.size)
            clear hbn
            clear hR1
            go_wp2_with fail
            refine (HVA.out _ hb).mono ?_
            rintro e w3 ⟨rfl, rfl⟩
            go_wp2_with fail
            refine (awake_any _).mono ?_
            rintro e w4 ⟨rfl, hbn⟩
            replace hb := hb.trans (hbn.mono hb.size)
            clear hbn
            go_wp2
            go_ret
            exact ⟨rfl, hb⟩
    · obtain ⟨i, rfl⟩ := Int.eq_ofNat_of_zero_le (show 0 ≤ x by omega)
      obtain ⟨rule, f, rfl, hr2, hf, hrf⟩ := rule_of (show 0 ≤ y by omega) (by omega) q
      have hin : i < q := by omega
      rw [few_same hv] at HFE
      have HLI := hide (okLie hW hin hr2 hf)
      have h5 := hW.ok.le
      obtain ⟨r, hr⟩ : ∃ r, lieN f W q i = r := ⟨_, rfl⟩
      obtain ⟨k, hk⟩ : ∃ k, lenO r = k := ⟨_, rfl⟩
      obtain ⟨z, hz⟩ : ∃ z, (if r.isSome then (0 : Int) else 4) = z := ⟨_, rfl⟩
      have hk5 : k ≤ 5 := by
        rw [← hk]
        cases h : r with
        | none => simp [lenO]
        | some a => rw [h] at hr; have := (lieN_some hr).1.len; simp [lenO]; omega
      have HA : Hid (RowsA w w.heap.size A (upp W)) := by rw [hW.eq]; exact hA
      have HRL : Hid (∀ w', Below w.heap.size w w' → Calls Try.prog 46 #[.slice A q c, .int .i64 i, .int .i64 rule] w' (FindE r k z w')) := fun w' hw' =>
        (refLie_any A q c i rule f W w' hW.ok (HA.out.next hw') hin hf hrf).mono fun e w'' h => find_e hk hz (by rw [hr] at h; exact h)
      rw [hr] at HLI
      have HLB : Hid ((up (r.getD [])).length = k) := by show _ = _; rw [lenO_up, hk]
      have HK := hide hk
      have HZ := hide hz
      clear hv hrow hn hA hq hW hbad hf hrf hr hk hz
      go_enter Try.func15, Try.ntmps15
      have hb := Below.refl w.heap.size w
      go_wp2_with fail
      refine (HFE.out _ hb).mono ?_
      rintro e w1 ⟨A1, c1, rfl, hq1, hR1, hbn⟩
      replace hb := hb.trans (hbn.mono hb.size)
      clear hbn
      go_wp2_with fail
      refine (HLI.out _ _ _ hR1).mono ?_
      intro e w2 hfr
      obtain ⟨O3, k3, rfl, hO, hbn⟩ := find_e HK.out HZ.out hfr
      clear hfr
      replace hR1 := hR1.next hbn
      replace hb := hb.trans (hbn.mono hb.size)
      clear hbn
      clear hR1
      go_wp2_with fail
      refine (HVA.out _ hb).mono ?_
      rintro e w3 ⟨rfl, rfl⟩
      go_wp2_with fail
      refine (HRL.out _ hb).mono ?_
      rintro e w4 ⟨O5, k5, rfl, hO5, hbn⟩
      replace hO := hO.next hbn
      replace hb := hb.trans (hbn.mono hb.size)
      clear hbn
      go_wp2_with fail
      refine (equal_any O3 O5 k k k3 k5 _ _ _ _ w4 HLB.out HLB.out (by omega) hO hO5).mono ?_
      rintro e w5 ⟨rfl, m5, rfl⟩
      replace hO := hO.keep (w' := w4.drewN m5) fun _ _ => rfl
      replace hO5 := hO5.keep (w' := w4.drewN m5) fun _ _ => rfl
      replace hb := below_drewN hb m5
      replace hO := hO.more (B' := (w4.drewN m5).heap.size) (Nat.le_refl _)
      replace hO5 := hO5.more (B' := (w4.drewN m5).heap.size) (Nat.le_refl _)
      generalize w4.drewN m5 = w5 at *
      simp only [decide_true]
      clear hO hO5
      go_wp2_with fail
      refine (awake_any _).mono ?_
      rintro e w6 ⟨rfl, hbn⟩
      replace hb := hb.trans (hbn.mono hb.size)
      clear hbn
      go_wp2
      go_ret
      exact ⟨rfl, hb⟩
end Go.Proofs.Ytilnbiaabhdfgaa
