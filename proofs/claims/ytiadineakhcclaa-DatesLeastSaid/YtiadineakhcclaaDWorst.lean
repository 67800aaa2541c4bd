/-
  dates: worst, by induction on the jobs to come.
-/
import Derived.Test.YtiadineakhcclaaDMapP
import Derived.Test.YtiadineakhcclaaDValid
namespace Go.Proofs.Ytiadineakhcclaa
open Go.RowKit Go.Deep Go.Maps
set_option linter.unusedVariables false
set_option linter.unusedSimpArgs false

def FW (o : Option Int) (f : Bool) (x : Int) : Prop := (o = none ∧ f = false ∧ x = 0) ∨ (o = some x ∧ f = true)
def WPost (L : List J4) (bl : List Nat) (b0 d S cnt : Nat) (w : World) (e : Ending) (w' : World) : Prop :=
  ∃ (x : Int) (f : Bool), e = .returned (.tuple #[.int .i64 x, .bool f]) ∧ Hid (FW (worstF L (fun i => bl.getD i 0) d S) f x) ∧ w.grownBy w' (some b0) ∧ ∃ c', c' ≤ cnt + 9 ^ d ∧ Hid (KnownM w' b0 (knownW L (fun i => bl.getD i 0)) c')
theorem drewN_grown {w w' : World} {row : Option Nat} (h : w.grownBy w' row) (q : Nat) : w.grownBy (w'.drewN q) row := ⟨h.os, h.tape, h.output, h.size, h.block⟩
theorem alloc_grown {w w' : World} {row : Option Nat} (h : w.grownBy w' row) (o : Obj) : w.grownBy (w'.alloc o) row := h.trans (World.grownBy_alloc _ o _)
set_option maxRecDepth 100000 in
set_option maxHeartbeats 6400000 in
theorem worst_d (A : Option Addr) (n c : Nat) (L : List J4) (BA : Option Addr) (bc : Nat) (bl : List Nat) (b0 : Nat) (hn : L.length = n) (hL : JobsOk L) (hbl : bl.length = n) (hb8 : ∀ i, i < n → bl.getD i 0 < 256)
    (hAb : ∀ b o, A = some ⟨b, o, none⟩ → some b ≠ some b0) (hBb : ∀ b o, BA = some ⟨b, o, none⟩ → some b ≠ some b0) : ∀ (d S cnt : Nat) (w : World), S < 2 ^ n → cardF n S + d = n → cnt + 9 ^ d ≤ 1000000000000 → JobsA w w.heap.size A L → IntsA w w.heap.size BA (up bl) → KnownM w b0 (knownW L (fun i => bl.getD i 0)) cnt →
    Calls Try.prog 67 #[.slice A n c, .int .i64 (S : Nat), .slice BA n bc, .map (some b0)] w (WPost L bl b0 d S cnt w) := by
  have h8 : n ≤ 8 := by rw [← hn]; exact hL.le
  have HN := hide hn
  have HL := hide hL
  have HBL := hide hbl
  have HB8 := hide hb8
  have HAb := hide hAb
  have HBb := hide hBb
  clear hn hL hbl hb8 hAb hBb
  intro d
  induction d with
  | zero =>
    intro S cnt w hS hc hcn hA hB hK
    have hSf : S = 2 ^ n - 1 := (card_full hS).1 (by omega)
    have hfull : wrap64 (wrap64 (2 ^ n) - 1) = ((2 ^ n - 1 : Nat) : Int) := full_nat n (by omega)
    rw [← hSf] at hfull
    have HK := hide hK
    clear hA hB hK hSf hS hc
    go_enter Try.func67, Try.ntmps67
    go_wp2
    go_ret2
    exact ⟨-1000, true, rfl, hide (.inr ⟨rfl, rfl⟩), ⟨rfl, rfl, rfl, Nat.le_refl _, fun _ _ _ => rfl⟩, cnt, by omega, HK⟩
  | succ d ih =>
    intro S cnt w hS hc hcn hA hB hK
    have hS8 : S < 256 := Nat.lt_of_lt_of_le hS (pow256 h8)
    have hS60 : S < 2 ^ 60 := Nat.lt_trans hS8 (by decide)
    have hS62 : S < 2 ^ 62 := Nat.lt_trans hS8 (by decide)
    have hSn : S ≠ 2 ^ n - 1 := fun e => by have := (card_full hS).2 e; omega
    have hfull : wrap64 (wrap64 (2 ^ n) - 1) = ((2 ^ n - 1 : Nat) : Int) := full_nat n (by omega)
    obtain ⟨FS, hFS⟩ : ∃ FS, FS = 2 ^ n - 1 := ⟨_, rfl⟩
    rw [← hFS] at hSn hfull
    have hne : ((S : Int) == (FS : Int)) = false := by simp; omega
    have hne2 : ¬ S = FS := hSn
    have HFS := hide hFS
    have HJ := hide (fun w' (hg : w.grownBy w' (some b0)) => grown_jobs hA hg HAb.out)
    have HI := hide (fun w' (hg : w.grownBy w' (some b0)) => grown_ints hB hg HBb.out)
    have HG0 : Hid (w.grownBy w (some b0)) := hide ⟨rfl, rfl, rfl, Nat.le_refl _, fun _ _ _ => rfl⟩
    have HIH := hide ih
    have HSn := hide hS
    have HC := hide hc
    have hWS : knownW L (fun i => bl.getD i 0) S = worstF L (fun i => bl.getD i 0) (d + 1) S := by rw [knownW, HN.out, show n - cardF n S = d + 1 by omega]
    have HWS := hide hWS
    have HWE : Hid (worstF L (fun i => bl.getD i 0) (d + 1) S = foldW L (fun i => bl.getD i 0) S (worstF L (fun i => bl.getD i 0) d) n) := hide (by rw [← HN.out]; rfl)
    obtain ⟨DD, hown, him, hD⟩ := hK
    have HOWN := hide hown
    have HIM := hide him
    have HDD := hide hD
    obtain ⟨P9, hP9⟩ : ∃ P9, P9 = 9 ^ d := ⟨_, rfl⟩
    have hP : 9 ^ (d + 1) = 9 * P9 := by rw [Nat.pow_succ, hP9, Nat.mul_comm]
    have hP1 : 1 ≤ P9 := by rw [hP9]; exact Nat.pow_pos (by decide)
    rw [hP] at hcn
    have HP := hide hP
    have HP9 := hide hP9
    clear hA hB ih hS hc hWS hown him hD hFS hP hP9 hSn
    cases hh : Maps.has DD (.int .i64 (S : Nat))
    · go_enter Try.func67, Try.ntmps67
      go_wp2_with (first
        | (at_lookup; refine wpList_lookup_own_ok_int _ rfl _ _ 102 rfl 3 3 .i64 mlaw Try.underlying102 Try.underlying3 (mzero _) b0 cnt DD rfl HOWN.out _ _ rfl (mkey S hS60) ?_; intro cc hat hwc; have HAT := hide hat; clear hat hwc))
      have HK0 : Hid (KnownM w b0 (knownW L (fun i => bl.getD i 0)) cnt) := hide ⟨DD, HOWN.out, HIM.out, HDD.out⟩
      clear HOWN HIM HDD hh
      go_loopw [12, 38] (fun v12 v38 wr => ∃ (k : Nat) (y : Int), k ≤ n ∧ v38 = .int .i64 k ∧ v12 = .int .i64 y ∧ Hid (y = atT L S k) ∧ Hid (KnownM wr b0 (knownW L (fun i => bl.getD i 0)) cnt) ∧ w.grownBy wr (some b0)) (fun _ v _ => n - (intOf v).toNat)
      case atStart => exact ⟨0, 0, Nat.zero_le _, rfl, rfl, hide rfl, HK0, HG0.out⟩
      case round =>
        obtain ⟨k, y, hk, rfl, rfl, HY, HK, hg⟩ := hrel
        by_cases hlt : k < n
        · obtain ⟨bj, oj, t, r, d0, u, rfl, hbj, hj0, hj1, hj2, hj3, hxj⟩ := (HJ.out _ hg).at_ (k := k) (by rw [HN.out]; exact hlt)
          have hkn : (k : Int) < (n : Int) := by omega
          have hdb := HL.out.at_ k (by rw [HN.out]; exact hlt)
          rw [hxj.out] at hdb
          simp only [] at hdb
          obtain ⟨hdb0, hdb1, _, _, _, _, _, _⟩ := hdb
          have hy := atT_bd HL.out S k (by rw [HN.out]; omega)
          rw [← HY.out] at hy
          have hkk : (k : Int) ≤ 8 := by omega
          obtain ⟨b, hb⟩ : ∃ b : Int, b = if S.testBit k = true then 1 else 0 := ⟨_, rfl⟩
          obtain ⟨p, hp⟩ : ∃ p : Int, p = if S.testBit k = true then t else 0 := ⟨_, rfl⟩
          have hbit : bits .and .i64 ((S : Int) / 2 ^ k) 1 = b := by rw [hb]; exact shr_bit S k hS62
          have hpb : 0 ≤ p ∧ p ≤ 20 := by rw [hp]; split <;> omega
          have hup : t * b = p := by rw [hb, hp]; split <;> omega
          have HM : Hid (IntKind.i64.wrap (t * b) = p) := by rw [hup, IntKind.wrap_i64]; exact hide (by omega)
          have HPP : Hid (IntKind.i64.wrap (y + p) = y + p) := by rw [IntKind.wrap_i64]; exact hide (by omega)
          have HYN : Hid (y + p = atT L S (k + 1)) := hide (by
            show _ = atT L S k + if S.testBit k = true then (L.getD k j0).t else 0
            rw [hxj.out, ← HY.out, hp])
          have HBW : Hid (∀ o q, w.grownBy ((wr.alloc o).drewN q) (some b0)) := fun o q => drewN_grown (alloc_grown hg o) q
          have hm := HM.out
          have hpp := HPP.out
          clear hxj hg hup hb hp
          go_wp2
          go_quiet (fail)
          go_wp2
          go_roundw
          case rel => exact ⟨k + 1, _, by omega, by go_num, rfl, HYN, hide ((HK.out.alloc _).drewN _), HBW.out _ _⟩
          case measure => simp [intOf] <;> omega
        · obtain rfl : n = k := by omega
          have HYS : Hid (y = atS L S) := by show y = _; rw [HY.out, atT, HN.out.symm]; rfl
          have hyb := atS_bd HL.out S
          rw [← HYS.out] at hyb
          have HGR := hide hg
          clear hg HY
          go_wp2
          go_loopw [15, 16, 55] (fun v15 v16 v55 wr => ∃ (k q c' : Nat) (x : Int) (f : Bool), k ≤ n ∧ v55 = .int .i64 k ∧ v15 = .int .i64 x ∧ v16 = .bool f ∧ c' ≤ cnt + q ∧ Hid (q = k * P9) ∧
            Hid (FW (foldW L (fun i => bl.getD i 0) S (worstF L (fun i => bl.getD i 0) d) k) f x) ∧
            Hid (KnownM wr b0 (knownW L (fun i => bl.getD i 0)) c') ∧ w.grownBy wr (some b0)) (fun _ _ v _ => n - (intOf v).toNat)
          case atStart => exact ⟨0, 0, cnt, 0, false, Nat.zero_le _, rfl, rfl, rfl, Nat.le_refl _, hide (by rw [Nat.zero_mul]), hide (.inl ⟨rfl, rfl, rfl⟩), HK, HGR.out⟩
          case round =>
            obtain ⟨k, q, c', x, f, hk, rfl, rfl, rfl, hcq, HQ, HF, HK2, hg⟩ := hrel
            obtain ⟨w2, rfl⟩ : ∃ w2 : World, w2 = wr := ⟨_, rfl⟩
            have hqk : q ≤ 8 * P9 := by rw [HQ.out]; exact Nat.mul_le_mul_right _ (by omega)
            have HG2 := hide hg
            by_cases hlt : k < n
            · have hq7 : q + P9 ≤ 8 * P9 := by
                have := HQ.out
                have h9 : (k + 1) * P9 ≤ 8 * P9 := Nat.mul_le_mul_right _ (by omega)
                rw [Nat.succ_mul, ← this] at h9; exact h9
              have HQ1 : Hid (q + P9 = (k + 1) * P9) := by show _ = _; rw [Nat.succ_mul, HQ.out]
              obtain ⟨bj, oj, t, r, d0, u, rfl, hbj, hj0, hj1, hj2, hj3, hxj⟩ := (HJ.out _ hg).at_ (k := k) (by rw [HN.out]; exact hlt)
              have hkn : (k : Int) < (n : Int) := by omega
              have hkk : (k : Int) ≤ 8 := by omega
              have hdb := HL.out.at_ k (by rw [HN.out]; exact hlt)
              rw [hxj.out] at hdb
              simp only [] at hdb
              obtain ⟨hdb0, hdb1, _, _, hdd0, hdd1, _, _⟩ := hdb
              have HXJ := hide hxj.out
              have hS1 := shr_test S k hS62
              have HFS1 : Hid (foldW L (fun i => bl.getD i 0) S (worstF L (fun i => bl.getD i 0) d) (k + 1) = _) := hide (show foldW L (fun i => bl.getD i 0) S (worstF L (fun i => bl.getD i 0) d) (k + 1) = _ from rfl)
              have HGA : Hid (∀ o, w.grownBy (w2.alloc o) (some b0)) := fun o => alloc_grown hg o
              clear hxj
              cases hbt : S.testBit k with
              | true =>
                rw [hbt] at hS1
                have hno : mayB (fun i => bl.getD i 0) S k = false := by unfold mayB; rw [hbt]; rfl
                have HF2 : Hid (FW (foldW L (fun i => bl.getD i 0) S (worstF L (fun i => bl.getD i 0) d) (k + 1)) f x) := by
                  show FW _ _ _
                  unfold foldW; rw [if_neg (by rw [hno]; decide)]; exact HF.out
                clear hbt hno hg
                go_wp2
                go_roundw
                case rel => exact ⟨k + 1, q + P9, c', x, f, by omega, by go_num, rfl, rfl, by omega, HQ1, HF2, hide (HK2.out.alloc _), HGA.out _⟩
                case measure => simp [intOf] <;> omega
              | false =>
                rw [hbt] at hS1
                obtain ⟨bb, ob, z0, rfl, hbb, hcb, hxb⟩ := (HI.out _ hg).at_ (k := k) (by rw [up_length, HBL.out]; exact hlt)
                have hz0 : z0 = ((bl.getD k 0 : Nat) : Int) := by have := hxb.out; rw [up_getD] at this; exact this.symm
                have hb9 := HB8.out k hlt
                obtain ⟨m, hm⟩ : ∃ m, m = bl.getD k 0 := ⟨_, rfl⟩
                rw [← hm] at hz0 hb9
                subst hz0
                have hand : bits BinOp.andNot IntKind.i64 (m : Int) (S : Int) = ((sdiff m S : Nat) : Int) := bandNot_nat m S (by omega) hS62
                obtain ⟨z, hz⟩ : ∃ z, z = sdiff m S := ⟨_, rfl⟩
                rw [← hz] at hand
                have HM := hide hm
                have HZ := hide hz
                clear hxb hm hz
                by_cases hz0 : z = 0
                · subst hz0
                  have hmay : mayB (fun i => bl.getD i 0) S k = true := by show (!S.testBit k && decide (sdiff (bl.getD k 0) S = 0)) = true; rw [hbt, ← HM.out, ← HZ.out]; rfl
                  have HMAY := hide hmay
                  have hk64 : k < 62 := by omega
                  obtain ⟨T, hT⟩ : ∃ T, T = S ||| 2 ^ k := ⟨_, rfl⟩
                  have hor : bits BinOp.or IntKind.i64 (S : Int) (wrap64 (2 ^ k)) = (T : Int) := by rw [shl_one k (by omega), hT]; exact bor_nat S _ hS62 (Nat.pow_lt_pow_right (by decide) hk64)
                  have hTn : T < 2 ^ n := by rw [hT]; exact or_lt HSn.out hlt
                  have hTc : cardF n T + d = n := by rw [hT, card_or hbt, if_pos hlt]; have := HC.out; omega
                  obtain ⟨w3, hw3⟩ : ∃ w3, w3 = w2.alloc (.cells #[.int .i64 t, .int .i64 r, .int .i64 d0, .int .i64 u] 48) := ⟨_, rfl⟩
                  have hbx : w3.heap[w2.heap.size]? = some (.cells #[.int .i64 t, .int .i64 r, .int .i64 d0, .int .i64 u] 48 (0, 0)) := by rw [hw3]; exact alloc_new _ _ _ rfl
                  have hg3 : w.grownBy w3 (some b0) := by rw [hw3]; exact alloc_grown hg _
                  have hk3 : KnownM w3 b0 (knownW L (fun i => bl.getD i 0)) c' := by rw [hw3]; exact HK2.out.alloc _
                  have hb0 : b0 ≠ w2.heap.size := by have := HK2.out.lt; omega
                  have HCALL := hide (HIH.out T c' w3 hTn hTc (by rw [← HP9.out]; omega) (HJ.out _ hg3) (HI.out _ hg3) hk3)
                  have HG3 := hide hg3
                  have HB0 := hide hb0
                  have HBX := hide hbx
                  have HW3 := hide hw3
                  have HTT := hide hT
                  clear hbt hmay hg hT hTn hTc hw3 hbx hg3 hk3 hb0 hb9
                  go_wp2_with fail
                  rw [← HW3.out]
                  refine (HCALL.out).mono ?_
                  rintro e w4 ⟨x2, f2, rfl, hx2, hg4, c2, hc2, HK4⟩
                  have q0 := hg4.cell (blk_cell HBX.out 0) (fun e => HB0.out (Option.some.inj e).symm)
                  have q2 := hg4.cell (blk_cell HBX.out 2) (fun e => HB0.out (Option.some.inj e).symm)
                  have HG4 := hide (HG3.out.trans hg4)
                  rw [← HP9.out] at hc2
                  clear hg4 HCALL
                  rcases hx2.out with ⟨h1, h2, h3⟩ | ⟨h1, h2⟩
                  · subst h2; subst h3
                    have HF2 : Hid (FW (foldW L (fun i => bl.getD i 0) S (worstF L (fun i => bl.getD i 0) d) (k + 1)) f x) := by
                      show FW _ _ _
                      unfold foldW; rw [if_pos HMAY.out, ← HTT.out, h1]; exact HF.out
                    clear h1 hx2
                    go_wp2
                    go_roundw
                    case rel => exact ⟨k + 1, q + P9, c2, x, f, by omega, by go_num, rfl, rfl, by omega, HQ1, HF2, HK4, HG4.out⟩
                    case measure => simp [intOf] <;> omega
                  · subst h2
                    have hxb := worst_bd HL.out _ _ _ h1
                    have hval : valJ L S k x2 = if x2 < y + t - d0 then y + t - d0 else x2 := by
                      unfold valJ; rw [HXJ.out, ← HYS.out]
                      show max x2 (y + t - d0) = _
                      split <;> omega
                    obtain ⟨V, hV⟩ : ∃ V, V = if x2 < y + t - d0 then y + t - d0 else x2 := ⟨_, rfl⟩
                    rw [← hV] at hval
                    have hVb : -1000 ≤ V ∧ V ≤ 1000 := by rw [hV]; split <;> omega
                    have HV := hide hV.symm
                    have HFK := HF
                    rcases HF.out with ⟨h3, h4, h5⟩ | ⟨h3, h4⟩
                    · subst h4; subst h5
                      have HF2 : Hid (FW (foldW L (fun i => bl.getD i 0) S (worstF L (fun i => bl.getD i 0) d) (k + 1)) true V) := by
                        show FW _ _ _
                        unfold foldW; rw [if_pos HMAY.out, ← HTT.out, h1]; simp only []; rw [h3]; simp only []; rw [hval]; exact .inr ⟨rfl, rfl⟩
                      have hvv := HV.out
                      clear h1 hx2 h3 hval hV HF HFK
                      go_wp2
                      go_roundw
                      case rel => exact ⟨k + 1, q + P9, c2, V, true, by omega, by go_num, rfl, rfl, by omega, HQ1, HF2, HK4, HG4.out⟩
                      case measure => simp [intOf] <;> omega
                    · subst h4
                      have hvv := HV.out
                      by_cases hlt3 : V < x
                      · have HF2 : Hid (FW (foldW L (fun i => bl.getD i 0) S (worstF L (fun i => bl.getD i 0) d) (k + 1)) true V) := by
                          show FW _ _ _
                          unfold foldW; rw [if_pos HMAY.out, ← HTT.out, h1]; simp only []; rw [h3]; simp only []; rw [hval, if_pos hlt3]; exact .inr ⟨rfl, rfl⟩
                        have hdl : decide (V < x) = true := decide_eq_true hlt3
                        clear h1 hx2 h3 hval hV HF HFK
                        go_wp2
                        go_roundw
                        case rel => exact ⟨k + 1, q + P9, c2, V, true, by omega, by go_num, rfl, rfl, by omega, HQ1, HF2, HK4, HG4.out⟩
                        case measure => simp [intOf] <;> omega
                      · have HF2 : Hid (FW (foldW L (fun i => bl.getD i 0) S (worstF L (fun i => bl.getD i 0) d) (k + 1)) true x) := by
                          show FW _ _ _
                          unfold foldW; rw [if_pos HMAY.out, ← HTT.out, h1]; simp only []; rw [h3]; simp only []; rw [hval, if_neg hlt3]; exact .inr ⟨rfl, rfl⟩
                        have hdl : decide (V < x) = false := decide_eq_false hlt3
                        clear h1 hx2 h3 hval hV HF HFK
                        go_wp2
                        go_roundw
                        case rel => exact ⟨k + 1, q + P9, c2, x, true, by omega, by go_num, rfl, rfl, by omega, HQ1, HF2, HK4, HG4.out⟩
                        case measure => simp [intOf] <;> omega
                · have hzb : ((z : Int) == 0) = false := by simp; omega
                  have hno : mayB (fun i => bl.getD i 0) S k = false := by
                    show (!S.testBit k && decide (sdiff (bl.getD k 0) S = 0)) = false
                    rw [← HM.out, ← HZ.out, hbt]; simp [hz0]
                  have HF2 : Hid (FW (foldW L (fun i => bl.getD i 0) S (worstF L (fun i => bl.getD i 0) d) (k + 1)) f x) := by
                    show FW _ _ _
                    unfold foldW; rw [if_neg (by rw [hno]; decide)]; exact HF.out
                  clear hbt hno hg hb9
                  go_wp2
                  go_roundw
                  case rel => exact ⟨k + 1, q + P9, c', x, f, by omega, by go_num, rfl, rfl, by omega, HQ1, HF2, hide (HK2.out.alloc _), HGA.out _⟩
                  case measure => simp [intOf] <;> omega
            · obtain rfl : n = k := by omega
              have HFN := HF
              rw [← HWE.out] at HFN
              rcases HFN.out with ⟨h3, h4, h5⟩ | ⟨h3, h4⟩
              · subst h4; subst h5
                clear h3 hg
                go_wp2
                go_ret2
                exact ⟨0, false, rfl, HFN, HG2.out, c', by rw [HP.out]; omega, HK2⟩
              · subst h4
                have hxb := worst_bd HL.out _ _ _ h3
                have hwf : (Lit.int .i64 x).wf = true := WalkArith.wf_i64 (by omega)
                have HWX : Hid (knownW L (fun i => bl.getD i 0) S = some x) := hide (HWS.out.trans h3)
                obtain ⟨D2, hown2, him2, hD2⟩ := HK2.out
                have HOWN2 := hide hown2
                have HIM2 := hide him2
                have HD2 := hide hD2
                clear h3 hg hown2 him2 hD2 HF
                go_wp2_with (first
                  | (at_mapUpdate; refine wpList_mapUpdate_own _ rfl _ _ _ 102 rfl 3 3 mlaw Try.underlying102 _ b0 c' D2 rfl HOWN2.out (by unfold maxLen; omega) _ _ _ rfl rfl (mkey S hS60) _ [] (plainElem_int Try.underlying3 hwf) ?_; intro w5 hown5 hgrow5; have HOWN5 := hide hown5; have HG5 := hide (HG2.out.trans hgrow5); clear hown5 hgrow5))
                go_ret2
                exact ⟨x, true, rfl, HFN, HG5.out, c' + 1, by rw [HP.out]; omega, hide (known_put HOWN5.out HIM2.out HD2.out HWX.out)⟩
    · obtain ⟨x, hx1, hx2⟩ := HDD.out S hh
      have HX1 := hide hx1
      have HX2 := hide hx2
      clear hx1 hx2
      go_enter Try.func67, Try.ntmps67
      go_wp2_with (first
        | (at_lookup; refine wpList_lookup_own_ok_int _ rfl _ _ 102 rfl 3 3 .i64 mlaw Try.underlying102 Try.underlying3 (mzero _) b0 cnt DD rfl HOWN.out _ _ rfl (mkey S hS60) ?_; intro cc hat hwc; have HAT := hide hat; clear hat hwc))
      go_ret2
      have e1 : cc = x := by
        have h1 := HAT.out
        rw [HX1.out] at h1
        injection h1 with h1
        injection h1 with _ h1
        exact h1.symm
      subst e1
      exact ⟨cc, true, rfl, hide (.inr ⟨by rw [← HWS.out]; exact HX2.out, rfl⟩), HG0.out, cnt, Nat.le_add_right _ _, hide ⟨DD, HOWN.out, HIM.out, HDD.out⟩⟩
end Go.Proofs.Ytiadineakhcclaa
