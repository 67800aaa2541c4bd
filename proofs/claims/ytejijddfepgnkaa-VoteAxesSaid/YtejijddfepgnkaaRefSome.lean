/-
  The reference's Some: all slices of k different numbers below n.
-/
import Derived.Test.YtejijddfepgnkaaInfo
import Derived.Test.YtejijddfepgnkaaRankVote
import Derived.Test.YtejijddfepgnkaaSomePlain
import Derived.Laws.AppendOwnNone
namespace Go.Proofs.Ytejijddfepgnkaa
open Go.RowKit
set_option linter.unusedVariables false
set_option linter.unusedSimpArgs false

def SomeRes (n k : Nat) (w : World) (e : Ending) (w' : World) : Prop :=
  ∃ X c, e = .returned (.slice X (someN n k).length c) ∧ (someN n k).length ≤ c ∧ RowsA w' w'.heap.size X (upp (someN n k)) ∧ (k = 0 → ∀ i, i < (someN n k).length → ∃ b o, X = some ⟨b, o, none⟩ ∧ w'.cell? ⟨b, o + i, none⟩ = some (.slice none 0 0)) ∧ Below w.heap.size w w'

set_option maxHeartbeats 400000 in
theorem some_zero (n : Nat) (w : World) : Calls Try.prog 67 #[.int .i64 n, .int .i64 0] w (SomeRes n 0 w) := by
  go_enter Try.func67, Try.ntmps67
  go_wp2
  go_ret
  have hc := blk_cell (alloc_new w (.cells #[.slice none 0 0] 23) w.heap.size rfl) 0
  refine ⟨some ⟨w.heap.size, 0, none⟩, 1, rfl, Nat.le_refl _, fun i hi => ?_, fun _ i hi => ?_, (Below.refl _ _).alloc (Nat.le_refl _) _⟩
  · obtain rfl : i = 0 := by simp [upp, someN] at hi; omega
    refine ⟨w.heap.size, 0, none, 0, rfl, by simp, ?_, Nat.le_refl _, fun j hj => absurd hj (by simp [upp, someN, up])⟩
    simp [upp, someN, up, hc]
  · obtain rfl : i = 0 := by simp [someN] at hi; omega
    exact ⟨w.heap.size, 0, rfl, by simp [hc]⟩

set_option maxRecDepth 100000 in
set_option maxHeartbeats 3200000 in
theorem some_one (n : Nat) (w : World) (hn : n ≤ 5) (ih : Calls Try.prog 67 #[.int .i64 n, .int .i64 (0 : Nat)] w (SomeRes n 0 w)) :
    Calls Try.prog 67 #[.int .i64 n, .int .i64 ((0 + 1 : Nat) : Int)] w (SomeRes n (0 + 1) w) := by
  have IH := hide ih
  obtain ⟨p, hp⟩ : ∃ p, (someN n 0).length = p := ⟨_, rfl⟩
  have hp5 : p ≤ 625 := by
    have h1 := someN_len n hn 0
    have h2 : 5 ^ 0 ≤ 5 ^ 4 := Nat.pow_le_pow_right (by decide) (by omega)
    omega
  have hfull : Hid (someTo (someN n 0) n p = someN n (0 + 1)) := by show _ = _; rw [← hp, someTo_full]; rfl
  have hk0 : ¬ (((0 + 1 : Nat) : Int) = 0) := by omega
  have hk1' : wrap64 (((0 + 1 : Nat) : Int) - 1) = (0 : Nat) := by unfold wrap64; omega
  have HP := hide hp
  clear ih hp
  go_enter Try.func67, Try.ntmps67
  go_wp2_with (go_at_call 67; refine IH.out.mono ?_; rintro e w1 ⟨X, c, rfl, hc, hR, hz, hb1⟩; rw [HP.out] at hc hz ⊢; have HR := hide hR; have HZ := hide hz; have HB1 := hide hb1; clear hR hz hb1)
  have hw1 := HB1.out.size
  obtain ⟨wo, rfl⟩ : ∃ wo : World, wo = w1 := ⟨_, rfl⟩
  go_loopw [5, 17] (fun u i wr => ∃ (j m c' : Nat) (X' : Option Addr) (vs : List Value), j ≤ p ∧ i = .int .i64 j ∧ m = (someTo (someN n 0) n j).length ∧ u = .slice X' m c' ∧ m ≤ c' ∧ wr.ownsRow wo.heap.size 23 1 (.slice X' m c') m vs ∧ RowVals wr (Value.slice X' m c').ownBlock vs (upp (someTo (someN n 0) n j)) ∧ Below wo.heap.size wo wr)
    (fun _ i _ => p - (intOf i).toNat)
  case atStart => exact ⟨0, 0, 0, none, [], Nat.zero_le _, rfl, rfl, rfl, Nat.le_refl _, World.ownsRow_nil _ _ _ _, RowVals.nil_, Below.refl _ _⟩
  case round =>
    obtain ⟨j, m, c', X', vs, hj, rfl, hm, rfl, hmc, hown, hrv, hbel⟩ := hrel
    have HOW := hide hown
    have HRV := hide hrv
    have HM := hide hm
    have HBEL := hide hbel
    clear hown hrv hm hbel
    by_cases hlt : j < p
    · obtain ⟨l, hl⟩ : ∃ l, (someN n 0).getD j [] = l := ⟨_, rfl⟩
      have hlm : l ∈ someN n 0 := by rw [← hl]; exact getD_mem (by rw [HP.out]; exact hlt)
      have hlk : l.length = 0 := someN_row n 0 l hlm
      have HLL := hide hl
      have HLK := hide hlk
      obtain ⟨b, o, rfl, hcw⟩ := HZ.out trivial j hlt
      have hcl := cell_lt hcw
      have hcc := (HBEL.out.cell (p := ⟨b, o + j, none⟩) hcl).trans hcw
      obtain rfl : l = [] := List.length_eq_zero_iff.1 hlk
      have HI : Hid (IntsA wo wo.heap.size none (up ([] : List Nat))) := IntsA.nil_
      clear hcw hcl
      have hst : Hid (∀ x, someTo (someN n 0) n j ++ extTo ([] : List Nat) x = someTo (someN n 0) n j ++ extTo ([] : List Nat) x) := fun _ => rfl
      clear hl hlm hlk
      go_wp2_with fail
      obtain ⟨wp, hwp⟩ : ∃ wp : World, wp = wr := ⟨_, rfl⟩
      have HWP := hide hwp
      clear hwp
      go_loopw [5, 22] (fun u i wr => ∃ (x m c' : Nat) (X' : Option Addr) (vs : List Value), x ≤ n ∧ i = .int .i64 x ∧ m = (someTo (someN n 0) n j ++ extTo ([] : List Nat) x).length ∧ u = .slice X' m c' ∧ m ≤ c' ∧ wr.ownsRow wo.heap.size 23 1 (.slice X' m c') m vs ∧ RowVals wr (Value.slice X' m c').ownBlock vs (upp (someTo (someN n 0) n j ++ extTo ([] : List Nat) x)) ∧ Below wo.heap.size wo wr)
        (fun _ i _ => n - (intOf i).toNat)
      case atStart => exact ⟨0, m, c', X', vs, Nat.zero_le _, rfl, by rw [extTo_zero, List.append_nil]; exact HM.out, rfl, hmc, HOW.out, by rw [extTo_zero, List.append_nil]; exact HRV.out, HBEL.out⟩
      case round =>
        obtain ⟨x, m, c', X', vs, hx, rfl, hm, rfl, hmc, hown, hrv, hbel⟩ := hrel
        clear HOW HRV HM HBEL
        have HOW := hide hown
        have HRV := hide hrv
        have HM := hide hm
        have HBEL := hide hbel
        have hwq := hbel.size
        have hml : m ≤ 4000 := by
          have h1 := someTo_len (someN n 0) n j
          have h2 := extTo_len ([] : List Nat) x
          rw [hm, List.length_append]
          have h3 : j * n ≤ 625 * 5 := Nat.mul_le_mul (by omega) hn
          omega
        have HRK := hide (rank_any none 0 0 wo.heap.size (up ([] : List Nat)) (x : Nat) wr rfl (by omega) IntsA.nil_)
        have hown0 : (wr.alloc (.cells #[] 3)).ownsRow wr.heap.size 3 1 (.slice (some ⟨wr.heap.size, 0, none⟩) 0 0) 0 [] := ⟨rfl, .inr ⟨wr.heap.size, 0, #[], rfl, Nat.le_refl _, alloc_new _ _ _ rfl, Nat.le_refl _, by decide, rfl, rfl⟩⟩
        have HO0 := hide hown0
        have HB0 := hide ((Below.refl wr.heap.size wr).alloc (Nat.le_refl _) (.cells #[] 3))
        obtain ⟨i0, hi0, hz0, hz1, hz2⟩ := info_parts info_int
        clear hown hrv hm hbel hown0
        have hneg := idx_nonneg (l := up ([] : List Nat)) (x := (x : Nat))
        obtain ⟨r, hr⟩ : ∃ r, idx (up ([] : List Nat)) (x : Nat) = r := ⟨_, rfl⟩
        rw [hr] at HRK hneg
        by_cases hlx : x < n
        · have hmem : x ∉ ([] : List Nat) := by simp
          · have hr0 : r < 0 := by
              rcases Int.lt_or_le r 0 with h | h
              · exact h
              · exact absurd (mem_up.1 (hneg.1 h)) hmem
            have HMEM : Hid (x ∉ ([] : List Nat)) := hmem
            clear hmem hneg hr
            go_wp2_with (first
              | (go_at_call 68; refine HRK.out.mono ?_; rintro e w' ⟨rfl, rfl⟩)
              | (at_builtin; refine wpList_append_own_none rfl _ _ 23 rfl wr.heap.size 3 i0 1 Try.underlying23 hi0 (.slice (some ⟨wr.heap.size, 0, none⟩) 0 0) 0 [] rfl HO0.out rfl ?_; obtain ⟨wa, hwa⟩ : ∃ wa, wr.alloc (.cells #[] 3) = wa := ⟨_, rfl⟩; rw [hwa]; have HOW1 := HO0; have HG1 := HB0; rw [hwa] at HOW1 HG1; clear hwa)
              | (at_builtin; refine wpList_app1 (w0 := wa) _ _ 23 3 (.int .i64 0) 8 rfl rfl Try.underlying23 info_int rfl wr.heap.size (.slice (some ⟨wr.heap.size, 0, none⟩) 0 0) 0 [] (.int .i64 (x : Nat)) rfl rfl rfl ⟨_, rfl⟩ HOW1.out rfl (by omega) (by omega) (by have := HG1.out.size; omega) ?_; intro g2 c2 wb hown2 hd1 hd2 hg2 hgl2 hgrow2; have HOW2 := hide hown2; have HG2 := hide hgrow2; have HBL2 := hide hg2; clear hown2 hgrow2 hg2)
              | (at_builtin; have HBB := hide (HG1.out.grown HG2.out (by have := HG1.out.size; omega) (fun q e => (own_lt HOW1.out q e).1)); have hszb : wr.heap.size ≤ wb.heap.size := HBB.out.size; have HOWq := hide (HOW.out.kept (row := none) (w' := wb) ⟨HBB.out.os, HBB.out.tape, HBB.out.output, HBB.out.size, fun k hk _ => HBB.out.block k hk⟩ (by
              cases h : (Value.slice X' m c').ownBlock
              · exact .inl rfl
              · exact .inr (by simp))); refine wpList_app1 (w0 := wb) _ _ 22 23 (.slice none 0 0) 24 rfl rfl Try.underlying22 info_ints rfl wo.heap.size (.slice X' m c') m vs (.slice (some ⟨g2, 0, none⟩) (0 + 1) c2) rfl rfl rfl ⟨_, rfl⟩ HOWq.out rfl (by omega) (by omega) (by omega) ?_; intro g3 c3 wc hown3 he1 he2 hg3 hgl3 hgrow3; have HOW3 := hide hown3; have HG3 := hide hgrow3; have HBL3 := hide hg3; clear hown3 hgrow3 hg3))
            go_roundw
            case rel =>
              refine ⟨x + 1, m + 1, c3, some ⟨g3, 0, none⟩, _, by omega, by go_num, by rw [extTo_succ, if_neg HMEM.out, ← List.append_assoc, List.length_append, ← HM.out]; rfl, rfl, he1, HOW3.out, ?_, ?_⟩
              · rw [extTo_succ, if_neg HMEM.out, ← List.append_assoc]
                have e9 : upp (someTo (someN n 0) n j ++ extTo ([] : List Nat) x ++ [([] : List Nat) ++ [x]]) = upp (someTo (someN n 0) n j ++ extTo ([] : List Nat) x) ++ [up (([] : List Nat) ++ [x])] := by simp [upp]
                rw [e9]
                refine (HRV.out.next HBB.out).snoc HG3.out HBL3.out (by simp [up]) hd1 (ints_of_own (by have h9 := HOW2.out; simpa [up] using h9)) (fun _ => off_own (n := (0 + 1)) (c := c2) fun gg hq => ?_)
                intro e
                have h1 := (own_lt HOW2.out gg hq).1
                have h2 := (own_lt HOW.out gg e.symm).2
                omega
              · exact (HBEL.out.trans (HBB.out.mono hwq)).grown HG3.out (by omega) (fun q hq => (own_lt HOW.out q hq).1)
            case measure => simp [intOf]; omega
        · obtain rfl : n = x := by omega
          clear hneg hr
          go_wp2
          go_roundw
          case rel =>
            have hj := someTo_succ (someN n 0) n j (by rw [HP.out]; exact hlt)
            rw [HLL.out] at hj
            exact ⟨j + 1, m, c', X', vs, by omega, by go_num, by rw [hj]; exact HM.out, rfl, hmc, HOW.out, by rw [hj]; exact HRV.out, HBEL.out⟩
          case measure => simp [intOf]; omega
    · obtain rfl : p = j := by omega
      go_wp2
      go_ret
      refine ⟨X', c', ?_, ?_, ?_, fun h => absurd h (by omega), HB1.out.trans (HBEL.out.mono hw1)⟩
      · rw [← hfull.out, ← HM.out]; rfl
      · rw [← hfull.out, ← HM.out]; exact hmc
      · rw [← hfull.out]; exact rows_of HRV.out HOW.out

set_option maxRecDepth 100000 in
set_option maxHeartbeats 3200000 in
theorem some_more (n : Nat) (k : Nat) (hk1 : 1 ≤ k) (hk4 : k ≤ 4) (w : World) (hn : n ≤ 5) (ih : Calls Try.prog 67 #[.int .i64 n, .int .i64 (k : Nat)] w (SomeRes n k w)) :
    Calls Try.prog 67 #[.int .i64 n, .int .i64 ((k + 1 : Nat) : Int)] w (SomeRes n (k + 1) w) := by
  have IH := hide ih
  obtain ⟨p, hp⟩ : ∃ p, (someN n k).length = p := ⟨_, rfl⟩
  have hp5 : p ≤ 625 := by
    have h1 := someN_len n hn k
    have h2 : 5 ^ k ≤ 5 ^ 4 := Nat.pow_le_pow_right (by decide) (by omega)
    omega
  have hfull : Hid (someTo (someN n k) n p = someN n (k + 1)) := by show _ = _; rw [← hp, someTo_full]; rfl
  have hk0 : ¬ (((k + 1 : Nat) : Int) = 0) := by omega
  have hk1' : wrap64 (((k + 1 : Nat) : Int) - 1) = (k : Nat) := by unfold wrap64; omega
  have HP := hide hp
  clear ih hp
  go_enter Try.func67, Try.ntmps67
  go_wp2_with (go_at_call 67; refine IH.out.mono ?_; rintro e w1 ⟨X, c, rfl, hc, hR, hz, hb1⟩; rw [HP.out] at hc hz ⊢; have HR := hide hR; have HZ := hide hz; have HB1 := hide hb1; clear hR hz hb1)
  have hw1 := HB1.out.size
  obtain ⟨wo, rfl⟩ : ∃ wo : World, wo = w1 := ⟨_, rfl⟩
  go_loopw [5, 17] (fun u i wr => ∃ (j m c' : Nat) (X' : Option Addr) (vs : List Value), j ≤ p ∧ i = .int .i64 j ∧ m = (someTo (someN n k) n j).length ∧ u = .slice X' m c' ∧ m ≤ c' ∧ wr.ownsRow wo.heap.size 23 1 (.slice X' m c') m vs ∧ RowVals wr (Value.slice X' m c').ownBlock vs (upp (someTo (someN n k) n j)) ∧ Below wo.heap.size wo wr)
    (fun _ i _ => p - (intOf i).toNat)
  case atStart => exact ⟨0, 0, 0, none, [], Nat.zero_le _, rfl, rfl, rfl, Nat.le_refl _, World.ownsRow_nil _ _ _ _, RowVals.nil_, Below.refl _ _⟩
  case round =>
    obtain ⟨j, m, c', X', vs, hj, rfl, hm, rfl, hmc, hown, hrv, hbel⟩ := hrel
    have HOW := hide hown
    have HRV := hide hrv
    have HM := hide hm
    have HBEL := hide hbel
    clear hown hrv hm hbel
    by_cases hlt : j < p
    · obtain ⟨l, hl⟩ : ∃ l, (someN n k).getD j [] = l := ⟨_, rfl⟩
      have hlm : l ∈ someN n k := by rw [← hl]; exact getD_mem (by rw [HP.out]; exact hlt)
      have hlk : l.length = k := someN_row n k l hlm
      have HLL := hide hl
      have HLK := hide hlk
      obtain ⟨b, o, A', n', c9, rfl, hb, hcw, hx, hle, hI⟩ := HR.out.at_ (k := j) (by rw [upp_length, HP.out]; exact hlt)
      have hcc := (HBEL.out.cell (p := ⟨b, o + j, none⟩) hb).trans hcw
      rw [upp_getD, hl] at hx hI
      obtain rfl : k = n' := by have := hx.out; rw [up_length, hlk] at this; exact this
      obtain ⟨b', o', y, rfl, hb', _⟩ := hI.at_ (k := 0) (by rw [up_length, hlk]; exact hk1)
      have HI := hide hI
      clear hcw hx hI
      have hst : Hid (∀ x, someTo (someN n k) n j ++ extTo l x = someTo (someN n k) n j ++ extTo l x) := fun _ => rfl
      clear hl hlm hlk
      go_wp2_with fail
      obtain ⟨wp, hwp⟩ : ∃ wp : World, wp = wr := ⟨_, rfl⟩
      have HWP := hide hwp
      clear hwp
      go_loopw [5, 22] (fun u i wr => ∃ (x m c' : Nat) (X' : Option Addr) (vs : List Value), x ≤ n ∧ i = .int .i64 x ∧ m = (someTo (someN n k) n j ++ extTo l x).length ∧ u = .slice X' m c' ∧ m ≤ c' ∧ wr.ownsRow wo.heap.size 23 1 (.slice X' m c') m vs ∧ RowVals wr (Value.slice X' m c').ownBlock vs (upp (someTo (someN n k) n j ++ extTo l x)) ∧ Below wo.heap.size wo wr)
        (fun _ i _ => n - (intOf i).toNat)
      case atStart => exact ⟨0, m, c', X', vs, Nat.zero_le _, rfl, by rw [extTo_zero, List.append_nil]; exact HM.out, rfl, hmc, HOW.out, by rw [extTo_zero, List.append_nil]; exact HRV.out, HBEL.out⟩
      case round =>
        obtain ⟨x, m, c', X', vs, hx, rfl, hm, rfl, hmc, hown, hrv, hbel⟩ := hrel
        clear HOW HRV HM HBEL
        have HOW := hide hown
        have HRV := hide hrv
        have HM := hide hm
        have HBEL := hide hbel
        have hwq := hbel.size
        have hml : m ≤ 4000 := by
          have h1 := someTo_len (someN n k) n j
          have h2 := extTo_len l x
          rw [hm, List.length_append]
          have h3 : j * n ≤ 625 * 5 := Nat.mul_le_mul (by omega) hn
          omega
        have HRK := hide (rank_any (some ⟨b', o', none⟩) k c9 wo.heap.size (up l) (x : Nat) wr (by rw [up_length]; exact HLK.out) (by omega) (HI.out.below hbel))
        have HIq := hide (HI.out.below (hbel.alloc hwq (.cells #[] 3)))
        have hown0 : (wr.alloc (.cells #[] 3)).ownsRow wr.heap.size 3 1 (.slice (some ⟨wr.heap.size, 0, none⟩) 0 0) 0 [] := ⟨rfl, .inr ⟨wr.heap.size, 0, #[], rfl, Nat.le_refl _, alloc_new _ _ _ rfl, Nat.le_refl _, by decide, rfl, rfl⟩⟩
        have HO0 := hide hown0
        have HB0 := hide ((Below.refl wr.heap.size wr).alloc (Nat.le_refl _) (.cells #[] 3))
        obtain ⟨i0, hi0, hz0, hz1, hz2⟩ := info_parts info_int
        clear hown hrv hm hbel hown0
        have hneg := idx_nonneg (l := up l) (x := (x : Nat))
        obtain ⟨r, hr⟩ : ∃ r, idx (up l) (x : Nat) = r := ⟨_, rfl⟩
        rw [hr] at HRK hneg
        by_cases hlx : x < n
        · by_cases hmem : x ∈ l
          · have hr0 : ¬ r < 0 := by have := hneg.2 (mem_up.2 hmem); omega
            have HMEM := hide hmem
            clear hmem hneg hr
            go_wp2_with (go_at_call 68; refine HRK.out.mono ?_; rintro e w' ⟨rfl, rfl⟩)
            go_roundw
            case rel => exact ⟨x + 1, m, c', X', vs, by omega, by go_num, by rw [extTo_succ, if_pos HMEM.out, List.append_nil]; exact HM.out, rfl, hmc, HOW.out, by rw [extTo_succ, if_pos HMEM.out, List.append_nil]; exact HRV.out, HBEL.out⟩
            case measure => simp [intOf]; omega
          · have hr0 : r < 0 := by
              rcases Int.lt_or_le r 0 with h | h
              · exact h
              · exact absurd (mem_up.1 (hneg.1 h)) hmem
            have HMEM : Hid (x ∉ l) := hmem
            clear hmem hneg hr
            go_wp2_with (first
              | (go_at_call 68; refine HRK.out.mono ?_; rintro e w' ⟨rfl, rfl⟩)
              | (at_builtin; refine wpList_appInts _ _ 23 3 (.int .i64 0) 8 rfl rfl Try.underlying23 info_int rfl wr.heap.size (.slice (some ⟨wr.heap.size, 0, none⟩) 0 0) 0 [] rfl ⟨b', o', none⟩ k c9 wo.heap.size (up l) rfl (by rw [up_length]; exact HLK.out) (HIq.out) HO0.out (by omega) (by omega) (by simp) ?_; intro A1 c1 wa hown1 hc1 hc2 hgrow hblk hnil; rw [Nat.zero_add, List.nil_append] at hown1; rw [Nat.zero_add] at hc1; have HOW1 := hide hown1; have HG1 := hide hgrow; have HBL := hide hblk; clear hown1 hgrow hblk hnil)
              | (at_builtin; refine wpList_app1 (w0 := wa) _ _ 23 3 (.int .i64 0) 8 rfl rfl Try.underlying23 info_int rfl wr.heap.size (.slice A1 k c1) k ((up l).map (Value.int .i64)) (.int .i64 (x : Nat)) rfl rfl rfl ⟨_, rfl⟩ HOW1.out rfl (by omega) (by omega) (by have := HG1.out.size; simp at this; omega) ?_; intro g2 c2 wb hown2 hd1 hd2 hg2 hgl2 hgrow2; have HOW2 := hide hown2; have HG2 := hide hgrow2; have HBL2 := hide hg2; clear hown2 hgrow2 hg2)
              | (at_builtin; have HBB := hide ((((Below.refl wr.heap.size wr).alloc (Nat.le_refl _) (.cells #[] 3)).grown HG1.out (by simp) (fun q e => by have e9 : wr.heap.size = q := (by simpa [Value.ownBlock] using e); omega)).grown HG2.out (by have h9 := HG1.out.size; simp at h9; omega) (fun q e => (own_lt HOW1.out q e).1)); have hszb : wr.heap.size ≤ wb.heap.size := HBB.out.size; have HOWq := hide (HOW.out.kept (row := none) (w' := wb) ⟨HBB.out.os, HBB.out.tape, HBB.out.output, HBB.out.size, fun k hk _ => HBB.out.block k hk⟩ (by
              cases h : (Value.slice X' m c').ownBlock
              · exact .inl rfl
              · exact .inr (by simp))); refine wpList_app1 (w0 := wb) _ _ 22 23 (.slice none 0 0) 24 rfl rfl Try.underlying22 info_ints rfl wo.heap.size (.slice X' m c') m vs (.slice (some ⟨g2, 0, none⟩) (k + 1) c2) rfl rfl rfl ⟨_, rfl⟩ HOWq.out rfl (by omega) (by omega) (by omega) ?_; intro g3 c3 wc hown3 he1 he2 hg3 hgl3 hgrow3; have HOW3 := hide hown3; have HG3 := hide hgrow3; have HBL3 := hide hg3; clear hown3 hgrow3 hg3))
            go_roundw
            case rel =>
              refine ⟨x + 1, m + 1, c3, some ⟨g3, 0, none⟩, _, by omega, by go_num, by rw [extTo_succ, if_neg HMEM.out, ← List.append_assoc, List.length_append, ← HM.out]; rfl, rfl, he1, HOW3.out, ?_, ?_⟩
              · rw [extTo_succ, if_neg HMEM.out, ← List.append_assoc]
                have e9 : upp (someTo (someN n k) n j ++ extTo l x ++ [l ++ [x]]) = upp (someTo (someN n k) n j ++ extTo l x) ++ [up (l ++ [x])] := by simp [upp]
                rw [e9]
                refine (HRV.out.next HBB.out).snoc HG3.out HBL3.out (by simp [up, HLK.out]) hd1 (ints_of_own (by have h9 := HOW2.out; simpa [up] using h9)) (fun _ => off_own (n := (k + 1)) (c := c2) fun gg hq => ?_)
                intro e
                have h1 := (own_lt HOW2.out gg hq).1
                have h2 := (own_lt HOW.out gg e.symm).2
                omega
              · exact (HBEL.out.trans (HBB.out.mono hwq)).grown HG3.out (by omega) (fun q hq => (own_lt HOW.out q hq).1)
            case measure => simp [intOf]; omega
        · obtain rfl : n = x := by omega
          clear hneg hr
          go_wp2
          go_roundw
          case rel =>
            have hj := someTo_succ (someN n k) n j (by rw [HP.out]; exact hlt)
            rw [HLL.out] at hj
            exact ⟨j + 1, m, c', X', vs, by omega, by go_num, by rw [hj]; exact HM.out, rfl, hmc, HOW.out, by rw [hj]; exact HRV.out, HBEL.out⟩
          case measure => simp [intOf]; omega
    · obtain rfl : p = j := by omega
      go_wp2
      go_ret
      refine ⟨X', c', ?_, ?_, ?_, fun h => absurd h (by omega), HB1.out.trans (HBEL.out.mono hw1)⟩
      · rw [← hfull.out, ← HM.out]; rfl
      · rw [← hfull.out, ← HM.out]; exact hmc
      · rw [← hfull.out]; exact rows_of HRV.out HOW.out

theorem some_any (n : Nat) (w : World) (hn : n ≤ 5) : ∀ k : Nat, k ≤ 5 → Calls Try.prog 67 #[.int .i64 n, .int .i64 (k : Nat)] w (SomeRes n k w)
  | 0, _ => some_zero n w
  | k + 1, hk => by
    have ih := some_any n w hn k (by omega)
    by_cases h0 : k = 0
    · subst h0; exact some_one n w hn ih
    · exact some_more n k (by omega) (by omega) w hn ih
end Go.Proofs.Ytejijddfepgnkaa
