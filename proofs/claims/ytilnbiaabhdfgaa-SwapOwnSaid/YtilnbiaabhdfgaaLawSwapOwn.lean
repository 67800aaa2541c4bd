/-
  The walk of SwapOwn.
-/
import Derived.Test.YtilnbiaabhdfgaaAwake
import Derived.Test.YtilnbiaabhdfgaaFewSwap
import Derived.Test.YtilnbiaabhdfgaaTtcLaws
import Derived.BigQuiet
namespace Go.Proofs.Ytilnbiaabhdfgaa
open Go.RowKit
set_option linter.unusedVariables false
set_option linter.unusedSimpArgs false

theorem few_rows (L : List (List Int)) : ∀ l ∈ fewL L, l.length ≤ 9223372036854775807 := by
  intro l hl
  simp only [fewL, List.mem_map] at hl
  obtain ⟨x, _, rfl⟩ := hl
  simp only [List.length_take]; omega
theorem few_len (L : List (List Int)) : (fewL L).length ≤ 9223372036854775807 := by simp [fewL]; omega

theorem quiet_index {A : Option Addr} {n c B m : Nat} {l : List Int} {v : Int} {w : World} (hn : l.length = n) (hlen : n ≤ 9223372036854775807) (hA : IntsA w B A l) :
    Calls Try.prog 22 #[.slice A n c, .int .i64 v] (w.drewN m) fun e w'' => e = .returned (.int .i64 (idx l v)) ∧ ∃ k, w'' = w.drewN k :=
  (index_any A n c B l v (w.drewN m) hn hlen (hA.keep fun _ _ => rfl)).mono fun e w' h => ⟨h.1, m, h.2.symm⟩

set_option maxHeartbeats 1600000 in
theorem swapOwn_any (A : Option Addr) (n c : Nat) (L : List (List Int)) (w : World) (hn : L.length = n) (hlen : n ≤ 9223372036854775807) (hrow : ∀ l ∈ L, l.length ≤ 9223372036854775807) (hA : RowsA w w.heap.size A L) :
    Calls Try.prog 3 #[.slice A n c] w fun e w' => e = .returned (.bool true) ∧ Below w.heap.size w w' := by
  have HFE := hide (few_any A n c w.heap.size L w hn hlen hrow hA)
  generalize hq : (fewL L).length = q at HFE
  have HQ := hide hq
  clear hq
  cases hv : validB L
  · have HT : Hid (∀ A' c' w1, RowsA w1 w1.heap.size A' (fewL L) → Calls Try.prog 19 #[.slice A' q c'] w1 fun e w' => e = .returned (.tuple #[.slice none 0 0, .int .i64 2]) ∧ Below w1.heap.size w1 w') :=
      fun A' c' w1 h => Trade_no A' q c' _ (fewL L) w1 HQ.out (by rw [← HQ.out]; exact few_len L) (few_rows L) h (by rw [few_valid]; exact hv)
    clear hv hrow hn hA
    go_enter Try.func3, Try.ntmps3
    go_wp2_with (first
      | (go_at_call 20; refine (HFE.out).mono ?_; rintro e w1 ⟨A1, c1, rfl, hq1, hR1, hb1⟩)
      | (go_at_call 19; refine (HT.out _ _ _ hR1).mono ?_; rintro e w2 ⟨rfl, hb2⟩)
      | (go_at_call 21; refine (awake_any _).mono ?_; rintro e w3 ⟨rfl, hb3⟩))
    go_ret
    refine ⟨rfl, (hb1.trans (hb2.mono hb1.size)).trans (hb3.mono ?_)⟩
    have := hb1.size; have := hb2.size; omega
  · have hfs := few_same hv
    obtain ⟨hu, hok⟩ := valid_ok hv
    have hnq : q = n := by rw [← HQ.out, hfs, hn]
    subst hnq
    have hM : Mkt (toNN L) (List.range q) q := by rw [← hn]; exact hok.mkt (ord_range _)
    have HOWN := hide hM.own_law
    have h5 : q ≤ 5 := by have := hok.le; omega
    have HT : Hid (∀ A' c' w1, RowsA w1 w1.heap.size A' (fewL L) → Calls Try.prog 19 #[.slice A' q c'] w1 fun e w' => ∃ O co, e = .returned (.tuple #[.slice O q co, .int .i64 0]) ∧ IntsA w' w'.heap.size O (up (tradeN (toNN L))) ∧ Below w1.heap.size w1 w') :=
      fun A' c' w1 h => by
        have := Trade_yes A' q c' _ (fewL L) w1 HQ.out h (by rw [hfs]; exact hv)
        rwa [hfs] at this
    have HA : Hid (RowsA w w.heap.size A (upp (toNN L))) := by rw [hu]; exact hA
    have HN : Hid ((toNN L).length = q) := by show _ = _; rw [← hn]; simp [toNN]
    have HLT : Hid (tradeN (toNN L) = listF q (traded (toNN L) (List.range q)).1) := by show _ = _; rw [tradeN, HN.out]
    have HR : Hid (∀ i, i < q → Ord ((toNN L).getD i []) q) := fun i hi => by have := hok.rows i (by rw [hn]; exact hi); rwa [hn] at this
    clear hv hrow hn hA hu hok hM hfs
    generalize toNN L = W at *
    go_enter Try.func3, Try.ntmps3
    go_wp2_with (first
      | (go_at_call 20; refine (HFE.out).mono ?_; rintro e w1 ⟨A1, c1, rfl, hq1, hR1, hb1⟩)
      | (go_at_call 19; refine (HT.out _ _ _ hR1).mono ?_; rintro e w2 ⟨O, co, rfl, hO, hb2⟩))
    have HRW := hide ((HA.out.next hb1).next hb2)
    have HO : Hid (IntsA w2 w2.heap.size O (up (listF q (traded W (List.range q)).1))) := by rw [← HLT.out]; exact hO
    have hbel := hb1.trans (hb2.mono hb1.size)
    clear hO hR1
    go_loopw [22] (fun i wr => ∃ k : Nat, k ≤ q ∧ i = .int .i64 k ∧ Below w2.heap.size w2 wr) (fun i _ => q - (intOf i).toNat)
    case atStart => exact ⟨0, Nat.zero_le _, rfl, Below.refl _ _⟩
    case round =>
      obtain ⟨k, hk, rfl, hwr⟩ := hrel
      by_cases hlt : k < q
      · obtain ⟨b, o, x, rfl, hb, hc, hx⟩ := (HO.out.below hwr).at_ (k := k) (by simp [listF]; exact hlt)
        obtain ⟨b2, o2, A', n', c', rfl, hb2', hc2, hx2, hle2, hI2⟩ := (HRW.out.below hwr).at_ (k := k) (by rw [upp_length, HN.out]; exact hlt)
        rw [upp_getD] at hI2 hx2
        have hxk : x = (((traded W (List.range q)).1 k : Nat) : Int) := by rw [← hx.out, up_getD]; simp [listF, List.getD_eq_getElem?_getD, hlt]
        subst hxk
        have hor := HR.out k hlt
        have hn'q : n' = q := by rw [← hx2.out, up_length, hor.len]
        subst hn'q
        obtain ⟨hl1, hl2⟩ := HOWN.out k hlt
        have e1 := idx_up_mem ((hor.mem _).2 hl1)
        have e2 := idx_up_mem ((hor.mem _).2 hlt)
        have hr : (List.range n').getD k 0 = k := by simp [List.getD_eq_getElem?_getD, hlt]
        rw [hr] at hl2
        have HQ1 : Hid (∀ m, Calls Try.prog 22 #[.slice A' n' c', .int .i64 ((traded W (List.range n')).1 k : Nat)] (wr.drewN m) fun e w'' => e = .returned (.int .i64 (place (W.getD k []) ((traded W (List.range n')).1 k) : Nat)) ∧ ∃ k, w'' = wr.drewN k) := fun m => by
          rw [← e1]; exact quiet_index hx2.out (by omega) hI2
        have HQ2 : Hid (∀ m, Calls Try.prog 22 #[.slice A' n' c', .int .i64 (k : Nat)] (wr.drewN m) fun e w'' => e = .returned (.int .i64 (place (W.getD k []) k : Nat)) ∧ ∃ k, w'' = wr.drewN k) := fun m => by
          rw [← e2]; exact quiet_index hx2.out (by omega) hI2
        generalize (traded W (List.range n')).1 k = t at *
        generalize place (W.getD k []) t = p1 at *
        generalize place (W.getD k []) k = p2 at *
        have hd : decide ((p1 : Int) < 0) = false := by simp
        have hd2 : decide ((p2 : Int) < (p1 : Int)) = false := by simp; omega
        clear hx hx2 hI2 hl1 e1 e2 hr hor
        go_wp2
        go_quiet ((first | (with_reducible exact HQ1.out _) | (with_reducible exact HQ2.out _)))
        go_wp2
        go_roundw
        case rel => exact ⟨k + 1, by omega, by go_num, below_drewN hwr _⟩
        case measure => simp [intOf]; omega
      · have hB : ((q : Int) == (q : Int)) = true := by simp
        have HNL := hide hbel
        go_wp2_with (go_at_call 21; refine (awake_any _).mono ?_; rintro e w3 ⟨rfl, hb3⟩)
        go_ret
        have h1 := HNL.out.trans (hwr.mono HNL.out.size)
        exact ⟨rfl, h1.trans (hb3.mono h1.size)⟩
end Go.Proofs.Ytilnbiaabhdfgaa
