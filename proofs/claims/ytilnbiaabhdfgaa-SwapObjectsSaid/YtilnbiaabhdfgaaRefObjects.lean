/-
  The reference's size, objects and Objects.
-/
import Derived.Test.YtilnbiaabhdfgaaRefBetter
import Derived.Test.YtilnbiaabhdfgaaCorePlain
namespace Go.Proofs.Ytilnbiaabhdfgaa
open Go.RowKit
set_option linter.unusedVariables false
set_option linter.unusedSimpArgs false

theorem card_drop5 : ∀ M, M < 32 → 0 < M → cardF 5 (M &&& (M - 1)) + 1 = cardF 5 M ∧ M &&& (M - 1) < M := by decide
set_option maxHeartbeats 400000 in
theorem size_any (M : Nat) (hM : M < 32) (w : World) : Calls Try.prog 69 #[.int .i64 M] w fun e w' => e = .returned (.int .i64 (cardF 5 M : Nat)) ∧ w = w' := by
  obtain ⟨r, hr⟩ : ∃ r, cardF 5 M = r := ⟨_, rfl⟩
  rw [hr]
  have hr5 : r ≤ 5 := by rw [← hr]; exact cardF_le 5 M
  have HR := hide hr
  clear hr
  go_enter Try.func69, Try.ntmps69
  go_wp2
  go_loop [0, 3] (fun s n => ∃ m k : Nat, m < 32 ∧ k ≤ 5 ∧ s = .int .i64 m ∧ n = .int .i64 k ∧ Hid (k + cardF 5 m = r)) (fun s _ => (intOf s).toNat)
  case atStart => exact ⟨M, 0, hM, by omega, rfl, rfl, by show _ = _; rw [HR.out]; omega⟩
  case round =>
    obtain ⟨m, k, hm, hk, rfl, rfl, hs⟩ := hrel
    by_cases h0 : 0 < m
    · have hlt : decide ((0 : Int) < (m : Int)) = true := decide_eq_true (by omega)
      have hb : bits BinOp.and .i64 (m : Int) ((m : Int) - 1) = ((m &&& (m - 1) : Nat) : Int) := by
        rw [show ((m : Int) - 1) = ((m - 1 : Nat) : Int) from by omega, band_nat m (m - 1) (by omega) (by omega)]
      obtain ⟨h1, h2⟩ := card_drop5 m hm h0
      have H1 := hide h1
      generalize m &&& (m - 1) = m' at *
      clear h1
      go_wp2
      go_round
      case rel => exact ⟨m', k + 1, by omega, by have := hs.out; have := H1.out; omega, by first | rfl | rw [hb], by go_num, by have := hs.out; have := H1.out; show _ = _; omega⟩
      case measure => simp [intOf] <;> omega
    · obtain rfl : m = 0 := by omega
      have h7 : k = r := by have := hs.out; have h8 : cardF 5 0 = 0 := rfl; omega
      subst h7
      go_wp2
      go_ret
      exact ⟨rfl, rfl⟩

/-! ### plain -/
def rok (W : List (List Nat)) (M : Nat) (o p : List Nat) (i : Nat) : Bool := if M.testBit i then M.testBit (p.getD i 0) && decide (place (W.getD i []) (p.getD i 0) ≤ place (W.getD i []) (o.getD i 0)) else p.getD i 0 == i
def rmore (W : List (List Nat)) (M : Nat) (o p : List Nat) (i : Nat) : Bool := M.testBit i && decide (place (W.getD i []) (p.getD i 0) < place (W.getD i []) (o.getD i 0))
def rokT (W : List (List Nat)) (M : Nat) (o p : List Nat) (k : Nat) : Bool := (List.range k).all fun i => rok W M o p i
def rmoreT (W : List (List Nat)) (M : Nat) (o p : List Nat) (k : Nat) : Bool := (List.range k).any fun i => rmore W M o p i
theorem rokT_succ (W : List (List Nat)) (M : Nat) (o p : List Nat) (k : Nat) : rokT W M o p (k + 1) = (rokT W M o p k && rok W M o p k) := by simp [rokT, List.range_succ]
theorem rmoreT_succ (W : List (List Nat)) (M : Nat) (o p : List Nat) (k : Nat) : rmoreT W M o p (k + 1) = (rmoreT W M o p k || rmore W M o p k) := by simp [rmoreT, List.range_succ]
def robj (W : List (List Nat)) (n M : Nat) (o p : List Nat) : Bool := rokT W M o p n && rmoreT W M o p n
theorem robj_iff {W : List (List Nat)} {n M : Nat} {o p : List Nat} : robj W n M o p = true ↔
    (∀ i, i < n → (M.testBit i = true → M.testBit (p.getD i 0) = true ∧ place (W.getD i []) (p.getD i 0) ≤ place (W.getD i []) (o.getD i 0)) ∧ (M.testBit i = false → p.getD i 0 = i)) ∧ ∃ i, i < n ∧ M.testBit i = true ∧ place (W.getD i []) (p.getD i 0) < place (W.getD i []) (o.getD i 0) := by
  simp only [robj, rokT, rmoreT, Bool.and_eq_true, List.all_eq_true, List.any_eq_true, List.mem_range, rmore, decide_eq_true_eq]
  refine and_congr (forall_congr' fun i => forall_congr' fun hi => ?_) Iff.rfl
  unfold rok
  cases hb : M.testBit i
  · simp
  · simp
/-- To keep what is outside of the group changes nothing. -/
theorem robj_obj {W : List (List Nat)} {n M : Nat} {o : List Nat} (hM : M < 2 ^ n) : (ordsN n).any (robj W n M o) = objectsB W n M o := by
  rw [Bool.eq_iff_iff, objectsB_iff, List.any_eq_true]
  constructor
  · rintro ⟨p, hp, h⟩
    obtain ⟨h1, i, hi, hb, hlt⟩ := robj_iff.1 h
    refine ⟨p, mem_ordsN.1 hp, fun j hj => ?_, impr_iff.2 ⟨fun j hj hjb => ((h1 j hj).1 hjb).2, i, hi, hb, hlt⟩⟩
    cases hb : M.testBit j with
    | true => rw [((h1 j hj).1 hb).1]
    | false => rw [(h1 j hj).2 hb, hb]
  · rintro ⟨y, hy, hcl, him⟩
    obtain ⟨h1, i, hi, hb, hlt⟩ := impr_iff.1 him
    have hat : ∀ j, j < n → (listF n fun i => if M.testBit i then y.getD i 0 else i).getD j 0 = if M.testBit j then y.getD j 0 else j := fun j hj => listF_at n _ hj
    have hord : Ord (listF n fun i => if M.testBit i then y.getD i 0 else i) n := by
      refine ord_listF (fun j hj => ?_) (fun j k hj hk e => ?_)
      · try dsimp only
        split
        · exact hy.getD_lt hj
        · exact hj
      · try dsimp only at e
        cases hbj : M.testBit j with
        | true =>
          cases hbk : M.testBit k with
          | true => rw [hbj, hbk] at e; exact hy.inj j k hj hk (by simpa using e)
          | false =>
            rw [hbj, hbk] at e
            have e2 : y.getD j 0 = k := by simpa using e
            have := hcl j hj
            rw [e2, hbj, hbk] at this; cases this
        | false =>
          cases hbk : M.testBit k with
          | true =>
            rw [hbj, hbk] at e
            have e2 : j = y.getD k 0 := by simpa using e
            have := hcl k hk
            rw [← e2, hbj, hbk] at this; cases this
          | false => rw [hbj, hbk] at e; simpa using e
    refine ⟨_, mem_ordsN.2 hord, robj_iff.2 ⟨fun j hj => ⟨fun hbj => ?_, fun hbj => ?_⟩, i, hi, hb, ?_⟩⟩
    · rw [hat j hj, hbj]
      simp only [if_true]
      exact ⟨by rw [← hcl j hj, hbj], h1 j hj hbj⟩
    · rw [hat j hj, hbj]; simp
    · rw [hat i hi, hb]; simpa using hlt

set_option maxRecDepth 100000 in
set_option maxHeartbeats 6400000 in
theorem robjects_any (A X : Option Addr) (n c cx M : Nat) (W : List (List Nat)) (o : List Nat) (w : World) (hW : WOk W n) (hM : M < 2 ^ n) (hA : RowsA w w.heap.size A (upp W)) (ho : Ord o n) (hX : IntsA w w.heap.size X (up o)) :
    Calls Try.prog 70 #[.slice A n c, .slice X n cx, .int .i64 M] w fun e w' => e = .returned (.bool (objectsB W n M o)) ∧ Below w.heap.size w w' := by
  have h5 := hW.le
  have h1 := hW.pos
  have hM32 : M < 32 := Nat.lt_of_lt_of_le hM (Nat.pow_le_pow_right (n := 2) (by decide) h5)
  obtain ⟨res, hres⟩ : ∃ res, objectsB W n M o = res := ⟨_, rfl⟩
  rw [hres]
  have HRES : Hid ((ordsN n).any (robj W n M o) = res) := by show _ = _; rw [robj_obj hM, hres]
  have HW := hide hW
  have HO := hide ho
  have HA := hide hA
  have HX := hide hX
  clear hW ho hA hX hres hM
  go_enter Try.func70, Try.ntmps70
  go_wp2_with (go_at_call 58; refine (refOrders_any h5 h1 w).mono ?_; intro e w1 hrn; obtain ⟨X2, c2, rfl, hc2, hR, hb1⟩ := rowsNew_rows hrn; have HR := hide hR; clear hrn hR)
  obtain ⟨N, hN⟩ : ∃ N, (ordsN n).length = N := ⟨_, rfl⟩
  have hN120 : N ≤ 120 := by rw [← hN]; exact ords_len n h5
  have HNN := hide hN
  rw [hN] at hc2
  rw [hN]
  clear hN
  go_loopw [17] (fun i wr => ∃ j : Nat, j ≤ N ∧ i = .int .i64 j ∧ Below w1.heap.size w1 wr ∧ Hid (∀ i, i < j → robj W n M o ((ordsN n).getD i []) = false)) (fun i _ => N - (intOf i).toNat)
  case atStart => exact ⟨0, Nat.zero_le _, rfl, Below.refl _ _, fun i hi => by omega⟩
  case round =>
    obtain ⟨j, hj, rfl, hbel, hno⟩ := hrel
    have hbw := hb1.trans (hbel.mono hb1.size)
    by_cases hlt : j < N
    · have hjl : j < (ordsN n).length := by rw [HNN.out]; exact hlt
      obtain ⟨b, o1, A', n', c', rfl, hb, hc, hx, hle, hI⟩ := (HR.out.below hbel).at_ (k := j) (by rw [upp_length]; exact hjl)
      rw [upp_getD] at hI hx
      obtain ⟨p, hp⟩ : ∃ p, (ordsN n).getD j [] = p := ⟨_, rfl⟩
      have hop : Ord p n := by rw [← hp]; exact mem_ordsN.1 (getD_mem hjl)
      rw [hp] at hI hx
      obtain rfl : n = n' := by have := hx.out; rw [up_length, hop.len] at this; exact this
      have HP := hide hp
      have HI := hide hI
      have HOP := hide hop
      clear hp hx hI hop hjl
      go_wp2
      go_loopw [9, 10, 23] (fun ok mo i wi => ∃ (k m : Nat) (y z : Bool), k ≤ n ∧ i = .int .i64 k ∧ ok = .bool y ∧ mo = .bool z ∧ wi = wr.drewN m ∧ Hid (rokT W M o p k = y) ∧ Hid (rmoreT W M o p k = z)) (fun _ _ i _ => n - (intOf i).toNat)
      case atStart => exact ⟨0, 0, true, false, Nat.zero_le _, rfl, rfl, rfl, rfl, rfl, rfl⟩
      case round =>
        obtain ⟨k, m, y, z, hk, rfl, rfl, rfl, rfl, hy, hz⟩ := hrel
        have hbm : Below w.heap.size w (wr.drewN m) := below_drewN hbw m
        by_cases hltk : k < n
        · obtain ⟨b1, o1, x1, rfl, hb1', hc1, hx1⟩ := (HI.out.keep (w' := wr.drewN m) fun _ _ => rfl).at_ (k := k) (by rw [up_length, HOP.out.len]; exact hltk)
          obtain ⟨b2, o2, x2, rfl, hb2', hc2', hx2⟩ := (HX.out.below hbm).at_ (k := k) (by rw [up_length, HO.out.len]; exact hltk)
          obtain ⟨b3, o3, A3, n3, c3, rfl, hb3, hc3, hx3, hle3, hI3⟩ := (HA.out.below hbm).at_ (k := k) (by rw [upp_length, HW.out.len]; exact hltk)
          rw [upp_getD] at hI3 hx3
          have hlk := HW.out.rows k hltk
          obtain rfl : n = n3 := by have := hx3.out; rw [up_length, hlk.len] at this; exact this
          have e1 := hx1.out
          have e2 := hx2.out
          rw [up_getD] at e1 e2
          have g1n := HOP.out.getD_lt hltk
          have g2n := HO.out.getD_lt hltk
          have HS := hide (rokT_succ W M o p k)
          have HT := hide (rmoreT_succ W M o p k)
          have HK : Hid (rok W M o p k = if M.testBit k then M.testBit (p.getD k 0) && decide (place (W.getD k []) (p.getD k 0) ≤ place (W.getD k []) (o.getD k 0)) else p.getD k 0 == k) := rfl
          have HL : Hid (rmore W M o p k = (M.testBit k && decide (place (W.getD k []) (p.getD k 0) < place (W.getD k []) (o.getD k 0)))) := rfl
          have ht := shr_test0 M k (by omega)
          have ht2 := shr_test M (p.getD k 0) (by omega)
          generalize rok W M o p k = rk at *
          generalize rmore W M o p k = rm at *
          generalize p.getD k 0 = g1 at *
          generalize o.getD k 0 = g2 at *
          subst e1; subst e2
          have HC1 : Hid (∀ m', Calls Try.prog 61 #[.slice A3 n c3, .int .i64 g1] ((wr.drewN m).drewN m') fun e w' => e = .returned (.int .i64 (place (W.getD k []) g1)) ∧ ∃ q, w' = (wr.drewN m).drewN q) := fun m' =>
            (rrank_any A3 n c3 _ g1 _ ((wr.drewN m).drewN m') hlk (by omega) (hI3.keep (fun _ _ => rfl)) g1n).mono fun e w' h => ⟨h.1, m', h.2.symm⟩
          have HD1 : Hid (∀ a m', Calls Try.prog 61 #[.slice A3 n c3, .int .i64 g1] ((wr.drewN m).drewN (a + m')) fun e w' => e = .returned (.int .i64 (place (W.getD k []) g1)) ∧ ∃ q, w' = (wr.drewN m).drewN (a + q)) := fun a m' =>
            (rrank_any A3 n c3 _ g1 _ ((wr.drewN m).drewN (a + m')) hlk (by omega) (hI3.keep (fun _ _ => rfl)) g1n).mono fun e w' h => ⟨h.1, m', h.2.symm⟩
          have HC2 : Hid (∀ m', Calls Try.prog 61 #[.slice A3 n c3, .int .i64 g2] ((wr.drewN m).drewN m') fun e w' => e = .returned (.int .i64 (place (W.getD k []) g2)) ∧ ∃ q, w' = (wr.drewN m).drewN q) := fun m' =>
            (rrank_any A3 n c3 _ g2 _ ((wr.drewN m).drewN m') hlk (by omega) (hI3.keep (fun _ _ => rfl)) g2n).mono fun e w' h => ⟨h.1, m', h.2.symm⟩
          have HD2 : Hid (∀ a m', Calls Try.prog 61 #[.slice A3 n c3, .int .i64 g2] ((wr.drewN m).drewN (a + m')) fun e w' => e = .returned (.int .i64 (place (W.getD k []) g2)) ∧ ∃ q, w' = (wr.drewN m).drewN (a + q)) := fun a m' =>
            (rrank_any A3 n c3 _ g2 _ ((wr.drewN m).drewN (a + m')) hlk (by omega) (hI3.keep (fun _ _ => rfl)) g2n).mono fun e w' h => ⟨h.1, m', h.2.symm⟩
          generalize place (W.getD k []) g1 = p1 at *
          generalize place (W.getD k []) g2 = p2 at *
          have hle' : decide ((p1 : Int) ≤ (p2 : Int)) = decide (p1 ≤ p2) := by rw [Bool.eq_iff_iff]; simp
          have hlt' : decide ((p1 : Int) < (p2 : Int)) = decide (p1 < p2) := by rw [Bool.eq_iff_iff]; simp
          have heq' : ((g1 : Int) == (k : Int)) = (g1 == k) := by rw [Bool.eq_iff_iff]; simp; omega
          have hbd : g1 < 60 := by omega
          obtain ⟨wd, hwd⟩ : ∃ wd, wr.drewN m = wd := ⟨_, rfl⟩
          have HWD : Hid (∀ q, ∃ q', wd.drewN q = wr.drewN q') := fun q => ⟨m + q, by rw [← hwd]; exact World.drewN_drewN _ _ _⟩
          have HWE : Hid (∃ q', wd = wr.drewN q') := ⟨m, hwd.symm⟩
          rw [hwd] at hc1 hc2' hc3 HC1 HC2 HD1 HD2
          rw [hwd]
          clear hx1 hx2 hx3 hlk hI3 hbm g1n g2n hc hwd
          cases hbk : M.testBit k
          · rw [hbk] at ht HK HL
            clear ht2 hbk
            cases y
            · go_wp2
              go_roundw
              case rel =>
                first
                  | exact ⟨k + 1, _, false, z, by omega, by go_num, by first | rfl, by first | rfl, (HWD.out _).choose_spec, by show _ = _; rw [HS.out, hy.out, HK.out]; rfl, by show _ = _; rw [HT.out, hz.out, HL.out]; first | rfl | simp⟩
                  | exact ⟨k + 1, _, false, z, by omega, by go_num, by first | rfl, by first | rfl, HWE.out.choose_spec, by show _ = _; rw [HS.out, hy.out, HK.out]; rfl, by show _ = _; rw [HT.out, hz.out, HL.out]; first | rfl | simp⟩
              case measure => simp [intOf] <;> omega
            · go_wp2
              try (go_quiet (fail))
              go_wp2
              go_roundw
              case rel =>
                first
                  | exact ⟨k + 1, _, (g1 == k), z, by omega, by go_num, by first | rfl | rw [heq'], rfl, (HWD.out _).choose_spec, by show _ = _; rw [HS.out, hy.out, HK.out]; rfl, by show _ = _; rw [HT.out, hz.out, HL.out]; cases z <;> rfl⟩
                  | exact ⟨k + 1, _, (g1 == k), z, by omega, by go_num, by first | rfl | rw [heq'], rfl, HWE.out.choose_spec, by show _ = _; rw [HS.out, hy.out, HK.out]; rfl, by show _ = _; rw [HT.out, hz.out, HL.out]; cases z <;> rfl⟩
              case measure => simp [intOf] <;> omega
          · rw [hbk] at ht HK HL
            clear hbk heq'
            cases y
            · cases z
              · go_wp2
                go_quiet ((first | (with_reducible exact HC1.out _) | (with_reducible exact HC2.out _)))
                go_wp2
                go_quiet ((first | (with_reducible exact HD1.out _ _) | (with_reducible exact HD2.out _ _)))
                go_wp2
                go_roundw
                case rel =>
                  first
                    | exact ⟨k + 1, _, false, (decide (p1 < p2)), by omega, by go_num, by first | rfl | rw [hlt'], by first | rfl | rw [hlt'], (HWD.out _).choose_spec, by show _ = _; rw [HS.out, hy.out, HK.out]; rfl, by show _ = _; rw [HT.out, hz.out, HL.out]; first | rfl | simp⟩
                    | exact ⟨k + 1, _, false, (decide (p1 < p2)), by omega, by go_num, by first | rfl | rw [hlt'], by first | rfl | rw [hlt'], HWE.out.choose_spec, by show _ = _; rw [HS.out, hy.out, HK.out]; rfl, by show _ = _; rw [HT.out, hz.out, HL.out]; first | rfl | simp⟩
                case measure => simp [intOf] <;> omega
              · go_wp2
                go_quiet ((first | (with_reducible exact HC1.out _) | (with_reducible exact HC2.out _)))
                go_wp2
                go_quiet ((first | (with_reducible exact HD1.out _ _) | (with_reducible exact HD2.out _ _)))
                go_wp2
                go_roundw
                case rel =>
                  first
                    | exact ⟨k + 1, _, false, true, by omega, by go_num, by first | rfl, by first | rfl, (HWD.out _).choose_spec, by show _ = _; rw [HS.out, hy.out, HK.out]; rfl, by show _ = _; rw [HT.out, hz.out, HL.out]; first | rfl | simp⟩
                    | exact ⟨k + 1, _, false, true, by omega, by go_num, by first | rfl, by first | rfl, HWE.out.choose_spec, by show _ = _; rw [HS.out, hy.out, HK.out]; rfl, by show _ = _; rw [HT.out, hz.out, HL.out]; first | rfl | simp⟩
                case measure => simp [intOf] <;> omega
            · cases hbg : M.testBit g1
              · rw [hbg] at ht2 HK
                clear hbg
                cases z
                · go_wp2
                  go_quiet ((first | (with_reducible exact HC1.out _) | (with_reducible exact HC2.out _)))
                  go_wp2
                  go_quiet ((first | (with_reducible exact HD1.out _ _) | (with_reducible exact HD2.out _ _)))
                  go_wp2
                  go_roundw
                  case rel =>
                    first
                      | exact ⟨k + 1, _, false, (decide (p1 < p2)), by omega, by go_num, by first | rfl | rw [hlt'], by first | rfl | rw [hlt'], (HWD.out _).choose_spec, by show _ = _; rw [HS.out, hy.out, HK.out]; rfl, by show _ = _; rw [HT.out, hz.out, HL.out]; first | rfl | simp⟩
                      | exact ⟨k + 1, _, false, (decide (p1 < p2)), by omega, by go_num, by first | rfl | rw [hlt'], by first | rfl | rw [hlt'], HWE.out.choose_spec, by show _ = _; rw [HS.out, hy.out, HK.out]; rfl, by show _ = _; rw [HT.out, hz.out, HL.out]; first | rfl | simp⟩
                  case measure => simp [intOf] <;> omega
                · go_wp2
                  go_quiet ((first | (with_reducible exact HC1.out _) | (with_reducible exact HC2.out _)))
                  go_wp2
                  go_quiet ((first | (with_reducible exact HD1.out _ _) | (with_reducible exact HD2.out _ _)))
                  go_wp2
                  go_roundw
                  case rel =>
                    first
                      | exact ⟨k + 1, _, false, true, by omega, by go_num, by first | rfl, by first | rfl, (HWD.out _).choose_spec, by show _ = _; rw [HS.out, hy.out, HK.out]; rfl, by show _ = _; rw [HT.out, hz.out, HL.out]; first | rfl | simp⟩
                      | exact ⟨k + 1, _, false, true, by omega, by go_num, by first | rfl, by first | rfl, HWE.out.choose_spec, by show _ = _; rw [HS.out, hy.out, HK.out]; rfl, by show _ = _; rw [HT.out, hz.out, HL.out]; first | rfl | simp⟩
                  case measure => simp [intOf] <;> omega
              · rw [hbg] at ht2 HK
                clear hbg
                cases z
                · go_wp2
                  go_quiet ((first | (with_reducible exact HC1.out _) | (with_reducible exact HC2.out _)))
                  go_wp2
                  go_quiet ((first | (with_reducible exact HD1.out _ _) | (with_reducible exact HD2.out _ _)))
                  go_wp2
                  go_roundw
                  case rel =>
                    first
                      | exact ⟨k + 1, _, (decide (p1 ≤ p2)), (decide (p1 < p2)), by omega, by go_num, by first | rfl | rw [hlt'] | rw [hle'], by first | rfl | rw [hlt'] | rw [hle'], (HWD.out _).choose_spec, by show _ = _; rw [HS.out, hy.out, HK.out]; rfl, by show _ = _; rw [HT.out, hz.out, HL.out]; first | rfl | simp⟩
                      | exact ⟨k + 1, _, (decide (p1 ≤ p2)), (decide (p1 < p2)), by omega, by go_num, by first | rfl | rw [hlt'] | rw [hle'], by first | rfl | rw [hlt'] | rw [hle'], HWE.out.choose_spec, by show _ = _; rw [HS.out, hy.out, HK.out]; rfl, by show _ = _; rw [HT.out, hz.out, HL.out]; first | rfl | simp⟩
                  case measure => simp [intOf] <;> omega
                · go_wp2
                  go_quiet ((first | (with_reducible exact HC1.out _) | (with_reducible exact HC2.out _)))
                  go_wp2
                  go_quiet ((first | (with_reducible exact HD1.out _ _) | (with_reducible exact HD2.out _ _)))
                  go_wp2
                  go_roundw
                  case rel =>
                    first
                      | exact ⟨k + 1, _, (decide (p1 ≤ p2)), true, by omega, by go_num, by first | rfl | rw [hle'], by first | rfl | rw [hle'], (HWD.out _).choose_spec, by show _ = _; rw [HS.out, hy.out, HK.out]; rfl, by show _ = _; rw [HT.out, hz.out, HL.out]; first | rfl | simp⟩
                      | exact ⟨k + 1, _, (decide (p1 ≤ p2)), true, by omega, by go_num, by first | rfl | rw [hle'], by first | rfl | rw [hle'], HWE.out.choose_spec, by show _ = _; rw [HS.out, hy.out, HK.out]; rfl, by show _ = _; rw [HT.out, hz.out, HL.out]; first | rfl | simp⟩
                  case measure => simp [intOf] <;> omega
        · obtain rfl : n = k := by omega
          have hrb : Hid (robj W n M o p = (y && z)) := by show _ = _; rw [robj, hy.out, hz.out]
          have hbel2 := below_drewN hbel m
          have hbw2 := below_drewN hbw m
          obtain ⟨yz, hyz⟩ : ∃ yz, (y && z) = yz := ⟨_, rfl⟩
          have HYZ := hide hyz
          cases yz
          · have hgo : y = false ∨ y = true ∧ z = false := by cases y <;> simp_all
            have hbk2 : Hid (∀ i, i < j + 1 → robj W n M o ((ordsN n).getD i []) = false) := fun i hi => by
              by_cases e : i = j
              · rw [e, HP.out, hrb.out, HYZ.out]
              · exact hno.out i (by omega)
            clear hyz HYZ hrb
            rcases hgo with rfl | ⟨rfl, rfl⟩
            · go_wp2
              go_roundw
              case rel => exact ⟨j + 1, by omega, by go_num, hbel2, hbk2.out⟩
              case measure => simp [intOf] <;> omega
            · go_wp2
              go_roundw
              case rel => exact ⟨j + 1, by omega, by go_num, hbel2, hbk2.out⟩
              case measure => simp [intOf] <;> omega
          · have hjl : j < (ordsN n).length := by rw [HNN.out]; exact hlt
            have hyz2 : y = true ∧ z = true := by simpa using hyz
            obtain ⟨rfl, rfl⟩ := hyz2
            have hr : res = true := by
              rw [← HRES.out, List.any_eq_true]
              exact ⟨p, by rw [← HP.out]; exact getD_mem hjl, by rw [hrb.out]; rfl⟩
            subst hr
            clear hyz hjl
            go_wp2
            go_ret
            exact ⟨rfl, hbw2⟩
    · obtain rfl : N = j := by omega
      have hr : res = false := by
        rw [← HRES.out, List.any_eq_false]
        intro x hx
        obtain ⟨i, hi, rfl⟩ := List.getElem_of_mem hx
        have := hno.out i (by rw [← HNN.out]; exact hi)
        rw [List.getD_eq_getElem?_getD, List.getElem?_eq_getElem hi] at this
        simpa using this
      subst hr
      go_wp2
      go_ret
      exact ⟨rfl, hbw⟩
end Go.Proofs.Ytilnbiaabhdfgaa
