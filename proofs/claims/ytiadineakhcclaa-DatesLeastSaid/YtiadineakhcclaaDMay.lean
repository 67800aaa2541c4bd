/-
  dates: the reference's may and Worst.
-/
import Derived.Test.YtiadineakhcclaaDLeastQ
namespace Go.Proofs.Ytiadineakhcclaa
open Go.RowKit Go.Deep
set_option linter.unusedVariables false
set_option linter.unusedSimpArgs false

theorem maskL_take {b : List Nat} {k : Nat} (hk : k < b.length) : maskL (b.take (k + 1)) = maskL (b.take k) ||| 2 ^ (b.getD k 0) := by
  rw [List.take_succ_eq_append_getElem hk, getD_cons_of (d := 0) hk, maskL_snoc]
theorem maskL_lt {n : Nat} : ∀ {b : List Nat}, (∀ x ∈ b, x < n) → maskL b < 2 ^ n := by
  have h : ∀ (b : List Nat) (S : Nat), S < 2 ^ n → (∀ x ∈ b, x < n) → b.foldl (fun m i => m ||| 2 ^ i) S < 2 ^ n := fun b => by
    induction b with
    | nil => intro S hS _; exact hS
    | cons i r ih => intro S hS hb; exact ih _ (or_lt hS (hb i (by simp))) (fun x hx => hb x (by simp [hx]))
  intro b hb
  exact h b 0 (Nat.two_pow_pos _) hb
set_option maxRecDepth 100000 in
set_option maxHeartbeats 1600000 in
theorem may_any (A : Option Addr) (n c : Nat) (PA : Option Addr) (m pc : Nat) (P : List (Int × Int)) (X : Option Addr) (q xc : Nat) (b : List Nat) (j : Nat) (w : World) (h8 : n ≤ 8) (hm : P.length = m) (hmm : m ≤ 9223372036854775807) (hok : prsOk P n = true) (hq : b.length = q) (hq9 : q ≤ 100) (hb : ∀ x ∈ b, x < n) (hj : j < n)
    (hP : PrsA w w.heap.size PA P) (hX : IntsA w w.heap.size X (up b)) :
    Calls Try.prog 81 #[.slice A n c, .slice PA m pc, .slice X q xc, .int .i64 (j : Nat)] w fun e w' => e = .returned (.bool (mayB (befB P n) (maskL b) j)) ∧ Below w.heap.size w w' := by
  have HM := hide hm
  have HP := hide hP
  have HX := hide hX
  have HQ := hide hq
  have HBB := hide hb
  have HMT := hide (fun k (hk : k < b.length) => maskL_take hk)
  have HMI := hide (may_iff (S := maskL b) (j := j) hok)
  have hS : maskL b < 256 := Nat.lt_of_lt_of_le (maskL_lt hb) (pow256 h8)
  have HTL : Hid (∀ k, maskL (b.take k) < 256) := fun k => Nat.lt_of_lt_of_le (maskL_lt fun x hx => hb x (List.mem_of_mem_take hx)) (pow256 h8)
  have HPB : Hid (∀ k, k < m → 0 ≤ (P.getD k (0, 0)).1 ∧ (P.getD k (0, 0)).1 < n) := fun k hk => by
    unfold prsOk at hok
    rw [List.all_eq_true] at hok
    have := hok (P.getD k (0, 0)) (by rw [← getD_cons_of (d := ((0 : Int), (0 : Int))) (by omega)]; exact List.getElem_mem _)
    unfold prOk at this
    rw [decide_eq_true_iff] at this
    omega
  clear hm hP hX hq hb hok
  obtain ⟨MS, hMS⟩ : ∃ MS, MS = maskL b := ⟨_, rfl⟩
  rw [← hMS] at HMI hS ⊢
  have HMS := hide hMS
  clear hMS
  go_enter Try.func81, Try.ntmps81
  go_wp2
  go_loopw [9, 16] (fun v9 v wr => ∃ k S : Nat, k ≤ q ∧ v = .int .i64 k ∧ v9 = .int .i64 (S : Nat) ∧ Hid (S = maskL (b.take k)) ∧ wr = w) (fun _ v _ => q - (intOf v).toNat)
  case atStart => exact ⟨0, 0, Nat.zero_le _, rfl, rfl, hide (by rw [List.take_zero]; rfl), rfl⟩
  case round =>
    obtain ⟨k, S, hk, rfl, rfl, HS, rfl⟩ := hrel
    by_cases hlt : k < q
    · have hkq : (k : Int) < (q : Int) := by omega
      obtain ⟨bx, ox, x1, rfl, hbx, hcx, hxx⟩ := HX.out.at_ (k := k) (by rw [up_length, HQ.out]; exact hlt)
      have e1 : x1 = ((b.getD k 0 : Nat) : Int) := by have := hxx.out; rw [up_getD] at this; exact this.symm
      have hxn : b.getD k 0 < n := HBB.out _ (by rw [← getD_cons_of (d := 0) (by rw [HQ.out]; exact hlt)]; exact List.getElem_mem _)
      have hmt := HMT.out k (by rw [HQ.out]; exact hlt)
      have hS8 := HTL.out k
      obtain ⟨x, hx⟩ : ∃ x, x = b.getD k 0 := ⟨_, rfl⟩
      rw [← hx] at e1 hxn hmt
      rw [← HS.out] at hmt hS8
      subst e1
      have hx62 : x < 62 := by omega
      have hor : bits BinOp.or IntKind.i64 (S : Int) (wrap64 (2 ^ x)) = ((S ||| 2 ^ x : Nat) : Int) := by rw [shl_one x (by omega)]; exact bor_nat S _ (by omega) (Nat.pow_lt_pow_right (by decide) hx62)
      have HN := hide hmt.symm
      clear hxx hx hmt
      go_wp2
      go_roundw
      case rel => exact ⟨k + 1, S ||| 2 ^ x, by omega, by go_num, rfl, HN, trivial⟩
      case measure => simp [intOf] <;> omega
    · obtain rfl : q = k := by omega
      have hSS : MS = S := by rw [HS.out, HMS.out, List.take_of_length_le (by rw [HQ.out]; exact Nat.le_refl _)]
      subst hSS
      have hS62 : MS < 2 ^ 62 := Nat.lt_trans hS (by decide)
      clear HS
      obtain ⟨w1, rfl⟩ : ∃ w1 : World, w1 = wr := ⟨_, rfl⟩
      go_wp2
      go_loopw [27] (fun v wr => ∃ k : Nat, k ≤ m ∧ v = .int .i64 k ∧ Hid ((P.take k).all (fun p => !(decide (p.2 = (j : Int))) || MS.testBit p.1.toNat) = true) ∧ Below w1.heap.size w1 wr) (fun v _ => m - (intOf v).toNat)
      case atStart => exact ⟨0, Nat.zero_le _, rfl, hide (by simp), Below.refl _ _⟩
      case round =>
        obtain ⟨k, hk, rfl, HA, hbl⟩ := hrel
        have HB := hide hbl
        by_cases hlt2 : k < m
        · obtain ⟨bj, oj, x, y, rfl, hbj, hc0, hc1, hx⟩ := (HP.out.next hbl).at_ (k := k) (by rw [HM.out]; exact hlt2)
          have hkm : (k : Int) < (m : Int) := by omega
          have hpb := HPB.out k hlt2
          rw [hx.out] at hpb
          simp only [] at hpb
          obtain ⟨x, rfl⟩ : ∃ i : Nat, x = i := ⟨x.toNat, by omega⟩
          have hxk : (x : Int) ≤ 8 := by omega
          have hS0 := shr_test0 MS x hS62
          have HXX := hide hx.out
          have HBA : Hid (∀ o, Below w1.heap.size w1 (wr.alloc o)) := fun o => HB.out.alloc HB.out.size _
          have HTK : Hid ((P.take (k + 1)).all (fun p => !(decide (p.2 = (j : Int))) || MS.testBit p.1.toNat) = ((P.take k).all (fun p => !(decide (p.2 = (j : Int))) || MS.testBit p.1.toNat) && (!(decide (y = (j : Int))) || MS.testBit x))) := by
            show _ = _
            rw [List.take_succ_eq_append_getElem (by rw [HM.out]; exact hlt2), List.all_append, getD_cons_of (d := ((0 : Int), (0 : Int))) (by rw [HM.out]; exact hlt2), HXX.out]
            simp
          have HFA : Hid ((!(decide (y = (j : Int))) || MS.testBit x) = false → P.all (fun p => !(decide (p.2 = (j : Int))) || MS.testBit p.1.toNat) = false) := fun h => by
            rw [List.all_eq_false]
            refine ⟨_, List.getElem_mem (by rw [HM.out]; exact hlt2), ?_⟩
            rw [getD_cons_of (d := ((0 : Int), (0 : Int))) (by rw [HM.out]; exact hlt2), HXX.out]
            show ¬ (!(decide (y = (j : Int))) || MS.testBit x) = true
            rw [h]; decide
          clear hbl hx
          by_cases hy : y = (j : Int)
          · have hyb : (y == (j : Int)) = true := by simp [hy]
            cases hbt : MS.testBit x with
            | false =>
              rw [hbt] at hS0
              have HRES : Hid (mayB (befB P n) MS j = false) := by
                have h9 := HFA.out (by rw [decide_eq_true hy, hbt]; rfl)
                show _ = _
                rw [HMI.out, h9, Bool.and_false]
              clear hbt
              subst hy
              go_wp2
              go_ret
              exact ⟨by rw [HRES.out]; rfl, HBA.out _⟩
            | true =>
              rw [hbt] at hS0
              have HT : Hid ((P.take (k + 1)).all (fun p => !(decide (p.2 = (j : Int))) || MS.testBit p.1.toNat) = true) := by show _ = _; rw [HTK.out, HA.out, hbt]; simp
              clear hbt
              subst hy
              go_wp2
              go_roundw
              case rel => exact ⟨k + 1, by omega, by go_num, HT, HBA.out _⟩
              case measure => simp [intOf] <;> omega
          · have hyb : (y == (j : Int)) = false := by simp [hy]
            have HT : Hid ((P.take (k + 1)).all (fun p => !(decide (p.2 = (j : Int))) || MS.testBit p.1.toNat) = true) := by show _ = _; rw [HTK.out, HA.out, decide_eq_false hy]; rfl
            clear HTK HFA
            go_wp2
            go_roundw
            case rel => exact ⟨k + 1, by omega, by go_num, HT, HBA.out _⟩
            case measure => simp [intOf] <;> omega
        · obtain rfl : m = k := by omega
          have HRES : Hid (mayB (befB P n) MS j = !MS.testBit j) := by
            have h9 := HA.out
            rw [List.take_of_length_le (by rw [HM.out]; exact Nat.le_refl _)] at h9
            show _ = _
            rw [HMI.out, h9, Bool.and_true]
          have hS0 := shr_test0 MS j hS62
          have hj8 : (j : Int) ≤ 8 := by omega
          clear hbl
          generalize MS.testBit j = bt at HRES hS0
          go_wp2
          go_ret
          exact ⟨by rw [HRES.out]; rfl, HB.out⟩
set_option maxRecDepth 100000 in
set_option maxHeartbeats 1600000 in
theorem refWorst_any (A : Option Addr) (n c : Nat) (L : List J4) (X : Option Addr) (q xc : Nat) (o : List Int) (w : World) (hn : L.length = n) (hL : JobsOk L) (hq : o.length = q) (hq9 : q ≤ 8) (ho : ∀ x ∈ o, 0 ≤ x ∧ x < (n : Int)) (hA : JobsA w w.heap.size A L) (hX : IntsA w w.heap.size X o) :
    Calls Try.prog 80 #[.slice A n c, .slice X q xc] w fun e w' => e = .returned (.int .i64 (rdelTo L (rowN L o) n)) ∧ Below w.heap.size w w' := by
  have h8 : n ≤ 8 := by rw [← hn]; exact hL.le
  have HE := hide (refEnds_any A n c L X q xc o w hn hL hq (by omega) ho hA hX)
  rw [show rowTo L o q = rowN L o by rw [rowN, hq]] at HE
  have HBD : Hid (∀ j, 0 ≤ (rowN L o).getD j 0 ∧ (rowN L o).getD j 0 ≤ 160) := fun j => by
    have := rowTo_bd hL (by rw [hn]; exact ho) o.length (Nat.le_refl _) j
    unfold rowN; omega
  have HEL : Hid ((rowN L o).length = n) := by show _ = _; rw [rowN, rowTo_len]; exact hn
  have HN := hide hn
  have HL := hide hL
  have HA := hide hA
  generalize rowN L o = en at *
  clear hn hL hq ho hA hX
  go_enter Try.func80, Try.ntmps80
  go_wp2_with (go_at_call 31; refine (HE.out).mono ?_; rintro e w1 ⟨Z, zc, rfl, hzc, hI, hb1⟩; have HI := hide hI; have HB1 := hide hb1; clear hI hb1)
  go_loopw [5, 12] (fun v5 v wr => ∃ (k : Nat) (y : Int), k ≤ n ∧ v = .int .i64 k ∧ v5 = .int .i64 y ∧ -1073741824 ≤ y ∧ y ≤ 1000 ∧ Hid (y = rdelTo L en k) ∧ Below w1.heap.size w1 wr) (fun _ v _ => n - (intOf v).toNat)
  case atStart => exact ⟨0, -1073741824, Nat.zero_le _, rfl, rfl, Int.le_refl _, by omega, hide rfl, Below.refl _ _⟩
  case round =>
    obtain ⟨k, y, hk, rfl, rfl, hy0, hy1, HY, hb⟩ := hrel
    have HB := hide hb
    by_cases hlt : k < n
    · have hkn : (k : Int) < (n : Int) := by omega
      obtain ⟨bj, oj, t, r, d, u, rfl, hbj, hj0, hj1, hj2, hj3, hxj⟩ := ((HA.out.next HB1.out).next hb).at_ (k := k) (by rw [HN.out]; exact hlt)
      obtain ⟨bz, oz, x, rfl, hbz, hcz, hxz⟩ := (HI.out.next hb).at_ (k := k) (by rw [HEL.out]; exact hlt)
      have hdb := HL.out.at_ k (by rw [HN.out]; exact hlt)
      have hxb := HBD.out k
      have hR : rdelTo L en (k + 1) = max (rdelTo L en k) (en.getD k 0 - (L.getD k j0).d) := rfl
      rw [hxj.out] at hdb hR
      rw [hxz.out] at hxb hR
      rw [← HY.out] at hR
      simp only [] at hdb hR
      obtain ⟨_, _, _, _, hd0, hd1, _, _⟩ := hdb
      have HR := hide hR
      have hsub : IntKind.i64.wrap (x - d) = x - d := by rw [IntKind.wrap_i64]; omega
      clear hb hxj hxz hR
      by_cases hlt3 : y < x - d
      · have HR2 : Hid (x - d = rdelTo L en (k + 1)) := by show _ = _; rw [HR.out]; omega
        clear HR
        go_wp2
        go_roundw
        case rel => exact ⟨k + 1, x - d, by omega, by go_num, rfl, by omega, by omega, HR2, HB.out⟩
        case measure => simp [intOf] <;> omega
      · have HR2 : Hid (y = rdelTo L en (k + 1)) := by show _ = _; rw [HR.out]; omega
        clear HR
        go_wp2
        go_roundw
        case rel => exact ⟨k + 1, y, by omega, by go_num, rfl, by omega, by omega, HR2, HB.out⟩
        case measure => simp [intOf] <;> omega
    · obtain rfl : n = k := by omega
      go_wp2
      go_ret
      exact ⟨by rw [← HY.out]; rfl, HB1.out.trans (hb.mono HB1.out.size)⟩
end Go.Proofs.Ytiadineakhcclaa
