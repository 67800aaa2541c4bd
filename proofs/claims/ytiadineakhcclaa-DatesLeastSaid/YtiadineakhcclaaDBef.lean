/-
  dates: befores.
-/
import Derived.Test.YtiadineakhcclaaDPrs
import Derived.Test.YtiadineakhcclaaDEnds
namespace Go.Proofs.Ytiadineakhcclaa
open Go.RowKit Go.Deep
set_option linter.unusedVariables false
set_option linter.unusedSimpArgs false

/-- The set of those that must be before job j. -/
def befB (P : List (Int × Int)) (n j : Nat) : Nat := maskF n fun x => P.any fun p => decide (p.1 = (x : Int) ∧ p.2 = (j : Int))
def befL (P : List (Int × Int)) (n : Nat) : List Nat := (List.range n).map (befB P n)
theorem befL_len (P : List (Int × Int)) (n : Nat) : (befL P n).length = n := by simp [befL]
theorem befL_getD {P : List (Int × Int)} {n j : Nat} (hj : j < n) : (befL P n).getD j 0 = befB P n j := by
  rw [List.getD_eq_getElem?_getD]; simp [befL, hj]
theorem befB_lt (P : List (Int × Int)) (n j : Nat) : befB P n j < 2 ^ n := maskF_lt _ _
theorem befB_snoc {P : List (Int × Int)} {n j x y : Nat} (hx : x < n) : befB (P ++ [((x : Int), (y : Int))]) n j = if j = y then befB P n j ||| 2 ^ x else befB P n j := by
  apply Nat.eq_of_testBit_eq
  intro i
  have hl : (befB (P ++ [((x : Int), (y : Int))]) n j).testBit i = (decide (i < n) && ((P.any fun p => decide (p.1 = (i : Int) ∧ p.2 = (j : Int))) || decide (x = i ∧ y = j))) := by
    unfold befB
    rw [testBit_maskF, List.any_append]
    congr 2
    simp only [List.any_cons, List.any_nil, Bool.or_false]
    congr 1
    rw [eq_iff_iff]
    show ((x : Int) = (i : Int) ∧ (y : Int) = (j : Int)) ↔ _
    omega
  rw [hl]
  by_cases e : j = y
  · rw [if_pos e, or_bit]
    unfold befB
    rw [testBit_maskF]
    by_cases h : x = i
    · subst h
      simp [e, hx]
    · simp [h]
  · rw [if_neg e]
    unfold befB
    rw [testBit_maskF]
    have : ¬ (x = i ∧ y = j) := fun h => e h.2.symm
    simp [this]
theorem befB_take {P : List (Int × Int)} {n j k : Nat} {x y : Nat} (hk : k < P.length) (he : P.getD k (0, 0) = ((x : Int), (y : Int))) (hx : x < n) : befB (P.take (k + 1)) n j = if j = y then befB (P.take k) n j ||| 2 ^ x else befB (P.take k) n j := by
  rw [List.take_succ_eq_append_getElem hk, getD_cons_of (d := ((0 : Int), (0 : Int))) hk, he]
  exact befB_snoc hx
set_option maxRecDepth 100000 in
set_option maxHeartbeats 1600000 in
theorem befores_any (A : Option Addr) (n c : Nat) (PA : Option Addr) (m pc : Nat) (P : List (Int × Int)) (w : World) (h1n : 1 ≤ n) (h8 : n ≤ 8) (hm : P.length = m) (hmm : m ≤ 9223372036854775807) (hP : PrsA w w.heap.size PA P) :
    Calls Try.prog 66 #[.slice A n c, .slice PA m pc] w fun e w' => (okBef P n = false ∧ e = .returned (.tuple #[.slice none 0 0, .bool false]) ∨ okBef P n = true ∧ ∃ X c', e = .returned (.tuple #[.slice X n c', .bool true]) ∧ IntsA w' w'.heap.size X (up (befL P n)) ∧ (∀ b o, X = some ⟨b, o, none⟩ → w.heap.size ≤ b)) ∧ Below w.heap.size w w' := by
  have hmk := run_make_row' (P := Try.prog) 41 3 (.int .i64 0) 8 Try.underlying41 info_int rfl .i64 .i64 n (by omega) (by omega)
  obtain ⟨w1, hw1⟩ : ∃ w1, w1 = w.alloc (.cells (madeCells #[.int .i64 0] n) 3) := ⟨_, rfl⟩
  have HR1 : Hid (w1.rowIs w.heap.size 3 n (fun a => .int .i64 ((befB (P.take 0) n a : Nat) : Int))) := by
    subst hw1
    refine (World.rowIs_made w (.int .i64 0) n _).congr fun a ha => ?_
    have : befB (P.take 0) n a = 0 := by
      apply Nat.eq_of_testBit_eq
      intro i
      unfold befB
      rw [testBit_maskF]; simp
    rw [this]; rfl
  have HB1 : Hid (Below w.heap.size w w1) := by subst hw1; exact (Below.refl _ _).alloc (Nat.le_refl _) _
  have HM := hide hm
  have HP := hide hP
  have HBT := hide (fun (x l h : Int) (b : Bool) (w : World) (hb : b = decide (l ≤ x ∧ x ≤ h)) => between_any x l h b w hb)
  clear hm hP
  go_enter Try.func66, Try.ntmps66
  by_cases h16 : m ≤ 16
  · have h16b : ¬ (16 : Int) < (m : Int) := by omega
    go_wp2
    rw [← hw1]
    clear hw1 hmk
    go_loopw [17] (fun v wr => ∃ k : Nat, k ≤ m ∧ v = .int .i64 k ∧ Hid (prsOk (P.take k) n = true) ∧ Hid (wr.rowIs w.heap.size 3 n (fun a => .int .i64 ((befB (P.take k) n a : Nat) : Int))) ∧ Below w.heap.size w wr) (fun v _ => m - (intOf v).toNat)
    case atStart => exact ⟨0, Nat.zero_le _, rfl, hide (by simp [prsOk]), HR1, HB1.out⟩
    case round =>
      obtain ⟨k, hk, rfl, HO, HR, hb⟩ := hrel
      have HB := hide hb
      by_cases hlt : k < m
      · obtain ⟨bj, oj, x, y, rfl, hbj, hc0, hc1, hx⟩ := (HP.out.below hb).at_ (k := k) (by rw [HM.out]; exact hlt)
        have hkn : (k : Int) < (m : Int) := by omega
        have HX := hide hx.out
        clear hb hx
        by_cases hok : prOk n (x, y) = true
        · have HT : Hid (prsOk (P.take (k + 1)) n = true) := by show _ = _; rw [prsOk_take (by rw [HM.out]; exact hlt), HO.out, HX.out, hok]; rfl
          unfold prOk at hok
          rw [decide_eq_true_iff] at hok
          obtain ⟨h1, h2, h3, h4⟩ := hok
          simp only [] at h1 h2 h3 h4
          obtain ⟨x, rfl⟩ : ∃ i : Nat, x = i := ⟨x.toNat, by omega⟩
          obtain ⟨y, rfl⟩ : ∃ i : Nat, y = i := ⟨y.toNat, by omega⟩
          have hyn : y < n := by omega
          have hxn : x < n := by omega
          have hlr := HR.out.lt
          have hfz := HR.out.frozen y
          have hcr := HR.out.cell hyn
          obtain ⟨M, hM⟩ : ∃ M, M = befB (P.take k) n y := ⟨_, rfl⟩
          have hM8 : M < 256 := by rw [hM]; exact Nat.lt_of_lt_of_le (befB_lt _ _ _) (pow256 h8)
          rw [← hM] at hcr
          have hk62 : x < 62 := by omega
          have hor : bits BinOp.or IntKind.i64 (M : Int) (wrap64 (2 ^ x)) = ((M ||| 2 ^ x : Nat) : Int) := by rw [shl_one x (by omega)]; exact bor_nat M _ (by omega) (Nat.pow_lt_pow_right (by decide) hk62)
          have HMH := hide hM
          have HBD := hide (fun q o => (below_drewN (HB.out.alloc HB.out.size o) q))
          have HTK := hide (fun j => befB_take (n := n) (j := j) (by rw [HM.out]; exact hlt) HX.out hxn)
          clear hM
          rcases Nat.lt_trichotomy x y with hxy | hxy | hxy
          · have hxy2 : ¬ y < x := by omega
            go_wp2_with (first
              | (go_at_call 76; (with_reducible refine (HBT.out _ _ _ true _ (by symm; exact decide_eq_true (by omega))).mono ?_); rintro e w2 ⟨rfl, rfl⟩)
              | (go_at_call 76; (with_reducible refine (HBT.out _ _ _ false _ (by symm; exact decide_eq_false (by omega))).mono ?_); rintro e w2 ⟨rfl, rfl⟩))
            go_region
            go_wp2
            go_roundw
            case rel =>
              refine ⟨k + 1, by omega, by go_num, HT, hide ((((HR.out.set y _).alloc _).drew).congr fun a ha => ?_), ((HB.out.setCell (p := ⟨w.heap.size, y, none⟩) (Nat.le_refl _) _).alloc (by have := HB.out.size; simpa using this) _).drew⟩
              show (if a = y then Value.int .i64 ((M ||| 2 ^ x : Nat) : Int) else Value.int .i64 ((befB (P.take k) n a : Nat) : Int)) = Value.int .i64 ((befB (P.take (k + 1)) n a : Nat) : Int)
              rw [HTK.out a]
              by_cases e : a = y
              · rw [if_pos e, if_pos e, e, HMH.out]
              · rw [if_neg e, if_neg e]
            case measure => simp [intOf] <;> omega
          · have hxy2 : ¬ y < x ∧ ¬ x < y := by omega
            clear hxy
            go_wp2_with (first
              | (go_at_call 76; (with_reducible refine (HBT.out _ _ _ true _ (by symm; exact decide_eq_true (by omega))).mono ?_); rintro e w2 ⟨rfl, rfl⟩)
              | (go_at_call 76; (with_reducible refine (HBT.out _ _ _ false _ (by symm; exact decide_eq_false (by omega))).mono ?_); rintro e w2 ⟨rfl, rfl⟩))
            go_region
            go_wp2
            go_roundw
            case rel =>
              refine ⟨k + 1, by omega, by go_num, HT, hide ((((HR.out.set y _).alloc _).drew).congr fun a ha => ?_), ((HB.out.setCell (p := ⟨w.heap.size, y, none⟩) (Nat.le_refl _) _).alloc (by have := HB.out.size; simpa using this) _).drew⟩
              show (if a = y then Value.int .i64 ((M ||| 2 ^ x : Nat) : Int) else Value.int .i64 ((befB (P.take k) n a : Nat) : Int)) = Value.int .i64 ((befB (P.take (k + 1)) n a : Nat) : Int)
              rw [HTK.out a]
              by_cases e : a = y
              · rw [if_pos e, if_pos e, e, HMH.out]
              · rw [if_neg e, if_neg e]
            case measure => simp [intOf] <;> omega
          · have hxy2 : ¬ x < y := by omega
            go_wp2_with (first
              | (go_at_call 76; (with_reducible refine (HBT.out _ _ _ true _ (by symm; exact decide_eq_true (by omega))).mono ?_); rintro e w2 ⟨rfl, rfl⟩)
              | (go_at_call 76; (with_reducible refine (HBT.out _ _ _ false _ (by symm; exact decide_eq_false (by omega))).mono ?_); rintro e w2 ⟨rfl, rfl⟩))
            go_region
            go_wp2
            go_roundw
            case rel =>
              refine ⟨k + 1, by omega, by go_num, HT, hide ((((HR.out.set y _).alloc _).drew).congr fun a ha => ?_), ((HB.out.setCell (p := ⟨w.heap.size, y, none⟩) (Nat.le_refl _) _).alloc (by have := HB.out.size; simpa using this) _).drew⟩
              show (if a = y then Value.int .i64 ((M ||| 2 ^ x : Nat) : Int) else Value.int .i64 ((befB (P.take k) n a : Nat) : Int)) = Value.int .i64 ((befB (P.take (k + 1)) n a : Nat) : Int)
              rw [HTK.out a]
              by_cases e : a = y
              · rw [if_pos e, if_pos e, e, HMH.out]
              · rw [if_neg e, if_neg e]
            case measure => simp [intOf] <;> omega
        · have HF : Hid (okBef P n = false) := hide (okBef_false (by rw [HM.out]; exact hlt) (by rw [HX.out]; simpa using hok))
          unfold prOk at hok
          rw [decide_eq_true_iff] at hok
          simp only [] at hok
          by_cases hmn : (0 ≤ x ∧ 0 ≤ y) ∧ (x < n ∨ y < n)
          · go_wp2_with (first
              | (go_at_call 76; (with_reducible refine (HBT.out _ _ _ true _ (by symm; exact decide_eq_true (by omega))).mono ?_); rintro e w2 ⟨rfl, rfl⟩)
              | (go_at_call 76; (with_reducible refine (HBT.out _ _ _ false _ (by symm; exact decide_eq_false (by omega))).mono ?_); rintro e w2 ⟨rfl, rfl⟩))
            all_goals (go_ret2; exact ⟨.inl ⟨HF.out, rfl⟩, HB.out.alloc HB.out.size _⟩)
          · go_wp2_with (first
              | (go_at_call 76; (with_reducible refine (HBT.out _ _ _ true _ (by symm; exact decide_eq_true (by omega))).mono ?_); rintro e w2 ⟨rfl, rfl⟩)
              | (go_at_call 76; (with_reducible refine (HBT.out _ _ _ false _ (by symm; exact decide_eq_false (by omega))).mono ?_); rintro e w2 ⟨rfl, rfl⟩))
            all_goals (go_ret2; exact ⟨.inl ⟨HF.out, rfl⟩, HB.out.alloc HB.out.size _⟩)
      · obtain rfl : m = k := by omega
        have HOK : Hid (okBef P n = true) := by
          have h := HO.out
          rw [List.take_of_length_le (by rw [HM.out]; exact Nat.le_refl _)] at h
          show _ = _; rw [okBef, h, HM.out, decide_eq_true h16]; rfl
        rw [List.take_of_length_le (by rw [HM.out]; exact Nat.le_refl _)] at HR
        have HI : Hid (IntsA wr wr.heap.size (some ⟨w.heap.size, 0, none⟩) (up (befL P n))) := hide (ints_of_row HR.out (by rw [up_length, befL_len]) (fun i hi => by rw [up_getD, befL_getD hi]))
        clear hb
        go_wp2
        go_ret2
        exact ⟨.inr ⟨HOK.out, _, n, rfl, HI.out, fun b o e => by injection e with e; injection e with e; omega⟩, HB.out⟩
  · have h16b : (16 : Int) < (m : Int) := by omega
    have HNO : Hid (okBef P n = false) := by show _ = _; rw [okBef, HM.out, decide_eq_false h16, Bool.and_false]
    go_wp2
    rw [← hw1]
    clear hw1 hmk
    go_ret2
    exact ⟨.inl ⟨HNO.out, rfl⟩, HB1.out⟩
theorem befores_no (A : Option Addr) (n c : Nat) (PA : Option Addr) (m pc : Nat) (P : List (Int × Int)) (w : World) (h1n : 1 ≤ n) (h8 : n ≤ 8) (hm : P.length = m) (hmm : m ≤ 9223372036854775807) (hP : PrsA w w.heap.size PA P) (ho : okBef P n = false) :
    Calls Try.prog 66 #[.slice A n c, .slice PA m pc] w fun e w' => e = .returned (.tuple #[.slice none 0 0, .bool false]) ∧ Below w.heap.size w w' :=
  (befores_any A n c PA m pc P w h1n h8 hm hmm hP).mono fun e w' ⟨h, hb⟩ => ⟨(by
    rcases h with h | h
    · exact h.2
    · rw [ho] at h; exact absurd h.1 (by decide)), hb⟩
theorem befores_yes (A : Option Addr) (n c : Nat) (PA : Option Addr) (m pc : Nat) (P : List (Int × Int)) (w : World) (h1n : 1 ≤ n) (h8 : n ≤ 8) (hm : P.length = m) (hmm : m ≤ 9223372036854775807) (hP : PrsA w w.heap.size PA P) (ho : okBef P n = true) :
    Calls Try.prog 66 #[.slice A n c, .slice PA m pc] w fun e w' => ∃ X c', e = .returned (.tuple #[.slice X n c', .bool true]) ∧ IntsA w' w'.heap.size X (up (befL P n)) ∧ (∀ b o, X = some ⟨b, o, none⟩ → w.heap.size ≤ b) ∧ Below w.heap.size w w' :=
  (befores_any A n c PA m pc P w h1n h8 hm hmm hP).mono fun e w' ⟨h, hb⟩ => by
    rcases h with h | ⟨_, X, c', h1, h2, h3⟩
    · rw [ho] at h; exact absurd h.1 (by decide)
    · exact ⟨X, c', h1, h2, h3, hb⟩
end Go.Proofs.Ytiadineakhcclaa
