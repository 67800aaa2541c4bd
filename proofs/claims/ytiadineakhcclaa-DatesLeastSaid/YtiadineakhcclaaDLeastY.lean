/-
  dates: Least of valid jobs and befores.
-/
import Derived.Test.YtiadineakhcclaaDLeast
import Derived.Test.YtiadineakhcclaaDFits
namespace Go.Proofs.Ytiadineakhcclaa
open Go.RowKit Go.Deep Go.Maps
set_option linter.unusedVariables false
set_option linter.unusedSimpArgs false

def LeastPost (L : List J4) (P : List (Int × Int)) (n : Nat) (w : World) (e : Ending) (w' : World) : Prop :=
  (worstF L (befB P n) n 0 = none ∧ e = .returned (.tuple #[.slice none 0 0, .int .i64 0, .int .i64 6]) ∨ ∃ r Z zc, worstF L (befB P n) n 0 = some r ∧ e = .returned (.tuple #[.slice Z n zc, .int .i64 r, .int .i64 0]) ∧ n ≤ zc ∧
      IntsA w' w'.heap.size Z (up (gr L (befB P n) n 0 0 r))) ∧ Below w.heap.size w w'
theorem below_grown {w w1 w' : World} {b0 : Nat} (h : Below w.heap.size w w1) (hb0 : w.heap.size ≤ b0) (hg : w1.grownBy w' (some b0)) : Below w.heap.size w w' := h.grown hg h.size (fun g hg => by injection hg with hg; omega)
set_option maxRecDepth 100000 in
set_option maxHeartbeats 6400000 in
theorem least_yes (A : Option Addr) (n c : Nat) (L : List J4) (PA : Option Addr) (m pc : Nat) (P : List (Int × Int)) (w : World) (hn : L.length = n) (hlen : n ≤ 9223372036854775807) (hm : P.length = m) (hmm : m ≤ 9223372036854775807) (hA : JobsA w w.heap.size A L) (hP : PrsA w w.heap.size PA P) (hv : jobsB L = true) (ho : okBef P n = true) :
    Calls Try.prog 40 #[.slice A n c, .slice PA m pc] w (LeastPost L P n w) := by
  have hmk := @run_makeMap Try.prog
  have hL := jobsB_iff.1 hv
  have h8 : n ≤ 8 := by rw [← hn]; exact hL.le
  have h1 : 1 ≤ n := by rw [← hn]; exact hL.pos
  have HV := hide (jvalid_any A n c L w hn hlen hA)
  rw [hv] at HV
  have HBE := hide (fun w1 (hb : Below w.heap.size w w1) => befores_yes A n c PA m pc P w1 h1 h8 hm hmm (hP.next hb) ho)
  have HJ0 := hide (fun w1 (hb : Below w.heap.size w w1) => hA.next hb)
  have hB : ∀ i, i < L.length → (befL P n).getD i 0 = befB P n i := fun i hi => befL_getD (by rw [← hn]; exact hi)
  have hw1 := worstF_congr (L := L) (B := fun i => (befL P n).getD i 0) (B' := befB P n) hB
  have hg1 := gr_congr (L := L) (B := fun i => (befL P n).getD i 0) (B' := befB P n) hB
  have HBL : Hid ((befL P n).length = n) := befL_len P n
  have HB8 : Hid (∀ i, i < n → (befL P n).getD i 0 < 256) := fun i hi => by rw [befL_getD hi]; exact Nat.lt_of_lt_of_le (befB_lt _ _ _) (pow256 h8)
  have hAb : ∀ b o, A = some ⟨b, o, none⟩ → b < w.heap.size := fun b o e => by
    obtain ⟨b1, o1, e1, h2, _⟩ := hA 0 (by omega)
    rw [e] at e1
    injection e1 with e1; injection e1 with e2
    omega
  have HAB := hide hAb
  have HN := hide hn
  have HL := hide hL
  obtain ⟨bl, hbl⟩ : ∃ bl, bl = befL P n := ⟨_, rfl⟩
  have HPO : Hid (∀ e w', ((worstF L (fun i => bl.getD i 0) n 0 = none ∧ e = .returned (.tuple #[.slice none 0 0, .int .i64 0, .int .i64 6]) ∨ ∃ r Z zc, worstF L (fun i => bl.getD i 0) n 0 = some r ∧ e = .returned (.tuple #[.slice Z n zc, .int .i64 r, .int .i64 0]) ∧ n ≤ zc ∧
      IntsA w' w'.heap.size Z (up (gr L (fun i => bl.getD i 0) n 0 0 r))) ∧ Below w.heap.size w w') → LeastPost L P n w e w') := fun e w' h => by
    rw [hbl] at h
    simp only [hw1, hg1] at h
    exact h
  rw [← hbl] at HBE HBL HB8
  clear hv ho hn hL hA hP hm hB hw1 hg1 hAb hbl
  go_enter Try.func40, Try.ntmps40
  go_wp2_with (first
    | (go_at_call 54; refine (HV.out).mono ?_; rintro e w1 ⟨rfl, hb1⟩; have HB1 := hide hb1; clear hb1)
    | (go_at_call 66; refine (HBE.out _ HB1.out).mono ?_; rintro e w2 ⟨BA, bc, rfl, hI2, hlo2, hb2⟩; have HI2 := hide hI2; have HLO2 := hide hlo2; have HS1 := hide HB1.out.size; have HB2 := hide (HB1.out.trans (hb2.mono HB1.out.size)); clear hI2 hlo2 hb2))
  obtain ⟨w3, hw3⟩ : ∃ w3, w3 = w2.alloc (.map #[] 0) := ⟨_, rfl⟩
  obtain ⟨b0, hb0⟩ : ∃ b0, b0 = w2.heap.size := ⟨_, rfl⟩
  have HK3 : Hid (KnownM w3 b0 (knownW L (fun i => bl.getD i 0)) 0) := by show KnownM _ _ _ _; rw [hw3, hb0]; exact KnownM.made w2 _
  have HB23 : Hid (Below w2.heap.size w2 w3) := by subst hw3; exact (Below.refl _ _).alloc (Nat.le_refl _) _
  have HB3 := hide (HB2.out.trans (HB23.out.mono HB2.out.size))
  have HWB : Hid (w.heap.size ≤ b0) := by show _ ≤ _; rw [hb0]; exact HB2.out.size
  have HAN : Hid (∀ b o, A = some ⟨b, o, none⟩ → some b ≠ some b0) := fun b o e h => by have := HAB.out b o e; have := HWB.out; injection h with h; omega
  have HBN : Hid (∀ b o, BA = some ⟨b, o, none⟩ → some b ≠ some b0) := fun b o e h => by
    obtain ⟨b1, o1, e1, h2, _⟩ := HI2.out 0 (by rw [up_length, HBL.out]; omega)
    rw [e] at e1
    injection e1 with e1; injection e1 with e2
    injection h with h
    omega
  have HJ3 := hide (HJ0.out _ HB3.out)
  have HI3 := hide (HI2.out.next HB23.out)
  have HWO := hide (worst_d A n c L BA bc bl b0 HN.out HL.out HBL.out HB8.out HAN.out HBN.out)
  have HC3 := hide (HWO.out n 0 0 w3 (Nat.two_pow_pos n) (by rw [cardF_zero' n, Nat.zero_add]) (by have := pow9 h8; omega) HJ3.out HI3.out HK3.out)
  rw [← hb0] at *
  have HW3 := hide hw3
  have HB0 := hide hb0
  clear hw3 hb0 hmk
  go_wp2_with fail
  rw [← HW3.out]
  refine (HC3.out).mono ?_
  rintro e w4 ⟨r, f, rfl, hf, hg4, cnt, hcnt, HK4⟩
  have HG4 := hide hg4
  have HF := hide hf.out
  have HJ := hide (fun w' (hg : w4.grownBy w' (some b0)) => grown_jobs HJ3.out (hg4.trans hg) HAN.out)
  have HI := hide (fun w' (hg : w4.grownBy w' (some b0)) => grown_ints HI3.out (hg4.trans hg) HBN.out)
  have HBG := hide (fun w' (hg : w4.grownBy w' (some b0)) => below_grown HB3.out HWB.out (hg4.trans hg))
  have HGG0 : Hid (w4.grownBy w4 (some b0)) := hide ⟨rfl, rfl, rfl, Nat.le_refl _, fun _ _ _ => rfl⟩
  have hb04 : b0 < w4.heap.size := HK4.out.lt
  clear hf hg4 HC3
  rcases HF.out with ⟨hf1, hf2, hf3⟩ | ⟨hf1, hf2⟩
  · subst hf2; subst hf3
    have HF1 := hide hf1
    clear hf1
    go_wp2
    exact bodyPost_ret (v := .tuple #[.slice none 0 0, .int .i64 0, .int .i64 6]) (by simp [results, Try.results40, go_sem]) rfl (HPO.out _ _ ⟨.inl ⟨HF1.out, rfl⟩, HBG.out _ HGG0.out⟩)
  · subst hf2
    have hrb := worst_bd HL.out _ _ _ hf1
    have HF1 := hide hf1
    have HG0 : Hid (GrS L (fun i => bl.getD i 0) r [] 0 n 0) := hide ⟨Begun.nil_ _ _, rfl, (atS_zero L).symm, by rw [HN.out]; exact Nat.zero_add _, by rw [List.nil_append, HN.out], r, hf1, Int.le_refl _⟩
    have hcnt1 : cnt ≤ 43046721 := by have := pow9 h8; omega
    clear hf1
    go_wp2
    go_loopw [12, 13, 14] (fun v12 v13 v14 wr => ∃ (l : List Nat) (q S d cn c' : Nat) (X : Option Addr) (a : Int), v12 = .slice X q c' ∧ v13 = .int .i64 (S : Nat) ∧ v14 = .int .i64 a ∧ q ≤ c' ∧ q + d = n ∧ Hid (l.length = q) ∧ Hid (GrS L (fun i => bl.getD i 0) r l S d a) ∧ cn ≤ 43046721 * (1 + 8 * q) ∧
      Hid (KnownM wr b0 (knownW L (fun i => bl.getD i 0)) cn) ∧ Hid (wr.ownsRow w4.heap.size 3 1 (.slice X q c') q ((up l).map (Value.int .i64))) ∧ w4.grownBy wr (some b0)) (fun _ _ v _ => 400 - (intOf v).toNat)
    case atStart => exact ⟨[], 0, 0, n, cnt, 0, none, 0, rfl, rfl, rfl, Nat.le_refl _, Nat.zero_add _, hide rfl, HG0, by omega, HK4, hide (World.ownsRow_nil _ _ _ _), HGG0.out⟩
    case round =>
      obtain ⟨l, q, S, d, cn, c', X, a, rfl, rfl, rfl, hqc, hqd, HLL, HGS, hcn, HK, HOW, hg⟩ := hrel
      obtain ⟨wo, rfl⟩ : ∃ wo : World, wo = wr := ⟨_, rfl⟩
      have hSn : S < 2 ^ n := by rw [HGS.out.set_, ← HN.out]; exact HGS.out.bg.lt
      have hS8 : S < 256 := Nat.lt_of_lt_of_le hSn (pow256 h8)
      have hS62 : S < 2 ^ 62 := Nat.lt_trans hS8 (by decide)
      have hSc : cardF n S = q := by rw [HGS.out.set_, ← HN.out, HGS.out.bg.card, HLL.out]
      have HSN := hide hSn
      have HSC := hide hSc
      have hab := atS_bd HL.out S
      rw [← HGS.out.at_] at hab
      by_cases hqn : q < n
      · obtain ⟨d, rfl⟩ : ∃ e, d = e + 1 := ⟨d - 1, by omega⟩
        have hqi : (q : Int) < (n : Int) := by omega
        have hd8 : d ≤ 8 := by omega
        have hP9 := pow9 hd8
        have HGO := hide hg
        clear hg hSn hSc
        go_wp2
        go_loopw [12, 13, 14, 48] (fun v12 v13 v14 v48 wr => ∃ (k cn : Nat), k ≤ n ∧ v48 = .int .i64 k ∧ v12 = .slice X q c' ∧ v13 = .int .i64 (S : Nat) ∧ v14 = .int .i64 a ∧ cn ≤ 43046721 * (1 + 8 * q + k) ∧ Hid (∀ j, j < k → nextB L (fun i => bl.getD i 0) d S a r j = false) ∧
          Hid (KnownM wr b0 (knownW L (fun i => bl.getD i 0)) cn) ∧ Hid (wr.ownsRow w4.heap.size 3 1 (.slice X q c') q ((up l).map (Value.int .i64))) ∧ w4.grownBy wr (some b0)) (fun _ _ _ v _ => n - (intOf v).toNat)
        case atStart => exact ⟨0, cn, Nat.zero_le _, rfl, rfl, rfl, rfl, by omega, hide (fun j hj => by omega), HK, HOW, HGO.out⟩
        case round =>
          obtain ⟨k, cn, hk, rfl, rfl, rfl, rfl, hcn, HNO, HK, HOW, hg⟩ := hrel
          obtain ⟨w5, rfl⟩ : ∃ w5 : World, w5 = wr := ⟨_, rfl⟩
          by_cases hlt : k < n
          · obtain ⟨bj, oj, t, rr, d0, u, rfl, hbj, hj0, hj1, hj2, hj3, hxj⟩ := (HJ.out _ hg).at_ (k := k) (by rw [HN.out]; exact hlt)
            have hkn : (k : Int) < (n : Int) := by omega
            have hkk : (k : Int) ≤ 8 := by omega
            have hdb := HL.out.at_ k (by rw [HN.out]; exact hlt)
            rw [hxj.out] at hdb
            simp only [] at hdb
            obtain ⟨hdb0, hdb1, _, _, hdd0, hdd1, _, _⟩ := hdb
            have HXJ := hide hxj.out
            have hS1 := shr_test S k hS62
            have HGA : Hid (∀ o, w4.grownBy (w5.alloc o) (some b0)) := fun o => alloc_grown hg o
            have HNS : Hid (nextB L (fun i => bl.getD i 0) d S a r k = false → ∀ j, j < k + 1 → nextB L (fun i => bl.getD i 0) d S a r j = false) := fun h j hj => by
              by_cases e : j = k
              · subst e; exact h
              · exact HNO.out j (by omega)
            clear hxj
            cases hbt : S.testBit k with
            | true =>
              rw [hbt] at hS1
              have HN1 : Hid (nextB L (fun i => bl.getD i 0) d S a r k = false) := by
                show _ = _
                unfold nextB mayB; rw [hbt]; rfl
              clear hbt hg
              go_wp2
              go_roundw
              case rel => exact ⟨k + 1, cn, by omega, by go_num, rfl, rfl, rfl, by omega, hide (HNS.out HN1.out), hide (HK.out.alloc _), hide (HOW.out.alloc _), HGA.out _⟩
              case measure => simp [intOf] <;> omega
            | false =>
              rw [hbt] at hS1
              obtain ⟨bb, ob, z0, rfl, hbb, hcb, hxb⟩ := (HI.out _ hg).at_ (k := k) (by rw [up_length, HBL.out]; exact hlt)
              have hz0 : z0 = ((bl.getD k 0 : Nat) : Int) := by have := hxb.out; rw [up_getD] at this; exact this.symm
              have hb9 := HB8.out k hlt
              obtain ⟨m9, hm⟩ : ∃ m9, m9 = bl.getD k 0 := ⟨_, rfl⟩
              rw [← hm] at hz0 hb9
              subst hz0
              have hand : bits BinOp.andNot IntKind.i64 (m9 : Int) (S : Int) = ((sdiff m9 S : Nat) : Int) := bandNot_nat m9 S (by omega) hS62
              obtain ⟨z, hz⟩ : ∃ z, z = sdiff m9 S := ⟨_, rfl⟩
              rw [← hz] at hand
              have HM := hide hm
              have HZ := hide hz
              clear hxb hm hz
              by_cases hz0 : z = 0
              · subst hz0
                have hmay : mayB (fun i => bl.getD i 0) S k = true := by show (!S.testBit k && decide (sdiff (bl.getD k 0) S = 0)) = true; rw [hbt, ← HM.out, ← HZ.out]; rfl
                have HMAY := hide hmay
                by_cases hlate : r < a + t - d0
                · have HN1 : Hid (nextB L (fun i => bl.getD i 0) d S a r k = false) := by
                    show _ = _
                    unfold nextB
                    rw [HXJ.out, decide_eq_false (show ¬ a + t - d0 ≤ r by omega)]; simp
                  clear hbt hmay hg
                  go_wp2
                  go_roundw
                  case rel => exact ⟨k + 1, cn, by omega, by go_num, rfl, rfl, rfl, by omega, hide (HNS.out HN1.out), hide (HK.out.alloc _), hide (HOW.out.alloc _), HGA.out _⟩
                  case measure => simp [intOf] <;> omega
                · have hk64 : k < 62 := by omega
                  obtain ⟨T, hT⟩ : ∃ T, T = S ||| 2 ^ k := ⟨_, rfl⟩
                  have hor : bits BinOp.or IntKind.i64 (S : Int) (wrap64 (2 ^ k)) = (T : Int) := by rw [shl_one k (by omega), hT]; exact bor_nat S _ hS62 (Nat.pow_lt_pow_right (by decide) hk64)
                  have hTn : T < 2 ^ n := by rw [hT]; exact or_lt HSN.out hlt
                  have hTc : cardF n T + d = n := by rw [hT, card_or hbt, if_pos hlt]; have := HSC.out; omega
                  obtain ⟨w6, hw6⟩ : ∃ w6, w6 = w5.alloc (.cells #[.int .i64 t, .int .i64 rr, .int .i64 d0, .int .i64 u] 48) := ⟨_, rfl⟩
                  have hbx : w6.heap[w5.heap.size]? = some (.cells #[.int .i64 t, .int .i64 rr, .int .i64 d0, .int .i64 u] 48 (0, 0)) := by rw [hw6]; exact alloc_new _ _ _ rfl
                  have hg6 : w4.grownBy w6 (some b0) := by rw [hw6]; exact alloc_grown hg _
                  have hk6 : KnownM w6 b0 (knownW L (fun i => bl.getD i 0)) cn := by rw [hw6]; exact HK.out.alloc _
                  have hb06 : b0 ≠ w5.heap.size := by have := HK.out.lt; omega
                  have HOW6 : Hid (w6.ownsRow w4.heap.size 3 1 (.slice X q c') q ((up l).map (Value.int .i64))) := by show World.ownsRow _ _ _ _ _ _ _; rw [hw6]; exact HOW.out.alloc _
                  have HCALL := hide (HWO.out d T cn w6 hTn hTc (by omega) (HJ.out _ hg6) (HI.out _ hg6) hk6)
                  have HG6 := hide hg6
                  have HB06 := hide hb06
                  have HBX := hide hbx
                  have HW6 := hide hw6
                  have HTT := hide hT
                  have hs6 : w5.heap.size < w6.heap.size := lt_of_block hbx
                  clear hbt hmay hg hT hTn hTc hw6 hbx hg6 hk6 hb06 hb9
                  go_wp2_with fail
                  rw [← HW6.out]
                  refine (HCALL.out).mono ?_
                  rintro e w7 ⟨x2, f2, rfl, hx2, hg7, c2, hc2, HK7⟩
                  have q0 := hg7.cell (blk_cell HBX.out 0) (fun e => HB06.out (Option.some.inj e).symm)
                  have HQ0 := hide q0
                  have HG7 := hide (HG6.out.trans hg7)
                  have HOW7 : Hid (w7.ownsRow w4.heap.size 3 1 (.slice X q c') q ((up l).map (Value.int .i64))) := hide (own_keepS HOW6.out (fun g hg => hg7.block g (own_lt HOW6.out g hg).2 (fun e => by have := (own_lt HOW6.out g hg).1; injection e with e; omega)))
                  have hs7 : w6.heap.size ≤ w7.heap.size := hg7.size
                  have hx := hx2.out
                  have HXL := hide (fun g (hg : (Value.slice X q c').ownBlock = some g) => (own_lt HOW.out g hg).2)
                  clear hg7 HCALL hx2
                  rcases hx with ⟨h1, h2, h3⟩ | ⟨h1, h2⟩
                  · subst h2; subst h3
                    have HN1 : Hid (nextB L (fun i => bl.getD i 0) d S a r k = false) := by
                      show _ = _
                      unfold nextB
                      rw [← HTT.out, h1]; simp
                    clear h1
                    go_wp2
                    go_roundw
                    case rel => exact ⟨k + 1, c2, by omega, by go_num, rfl, rfl, rfl, by omega, hide (HNS.out HN1.out), HK7, HOW7, HG7.out⟩
                    case measure => simp [intOf] <;> omega
                  · subst h2
                    by_cases hxr : x2 ≤ r
                    · have HN1 : Hid (nextB L (fun i => bl.getD i 0) d S a r k = true) := hide (next_iff.2 ⟨HMAY.out, by rw [HXJ.out]; show a + t - d0 ≤ r; omega, x2, by rw [← HTT.out]; exact h1, hxr⟩)
                      have HGN := hide (HGS.out.next (by rw [HN.out]; exact hlt) HN1.out HNO.out)
                      have hdl : decide (x2 ≤ r) = true := decide_eq_true hxr
                      clear h1
                      go_wp2_with (at_builtin; refine wpList_app1 (w0 := w7) _ _ 41 3 (.int .i64 0) 8 rfl rfl Try.underlying41 info_int rfl w4.heap.size (.slice X q c') q _ (.int .i64 (k : Nat)) rfl rfl rfl ⟨_, rfl⟩ HOW7.out rfl (by omega) (by omega) (by have := HG7.out.size; omega) ?_; intro g2 cg w8 hown1 hd1 hd2 hg1 hgl2 hgrow; have HOW8 := hide hown1; have q0 := hgrow.cell HQ0.out (fun e => by have h9 := HXL.out _ e.symm; simp at h9); have HK8 := hide (HK7.out.kept hgrow (fun e => by have h9 := (own_lt HOW7.out _ e.symm).1; omega)); have HG8 : Hid (w4.grownBy w8 (some b0)) := ⟨(hgrow.os).trans HG7.out.os, (hgrow.tape).trans HG7.out.tape, (hgrow.output).trans HG7.out.output, Nat.le_trans HG7.out.size hgrow.size, fun j hj hne => (hgrow.block j (Nat.lt_of_lt_of_le hj HG7.out.size) (fun e => by have h9 := (own_lt HOW7.out _ e.symm).1; omega)).trans (HG7.out.block j hj hne)⟩; clear hown1 hg1 hgrow)
                      go_roundw
                      case rel =>
                        refine ⟨l ++ [k], q + 1, T, d, c2, cg, some ⟨g2, 0, none⟩, a + t, rfl, rfl, rfl, hd1, by omega, hide (by rw [List.length_append, HLL.out]; rfl), ?_, by omega, HK8, hide ?_, HG8.out⟩
                        · have h9 := HGN.out
                          rw [← HTT.out, HXJ.out] at h9
                          exact h9
                        · have e9 : (up (l ++ [k])).map (Value.int .i64) = (up l).map (Value.int .i64) ++ [Value.int .i64 (k : Int)] := by simp [up]
                          rw [e9]; exact HOW8.out
                      case measure => simp [intOf] <;> omega
                    · have HN1 : Hid (nextB L (fun i => bl.getD i 0) d S a r k = false) := by
                        show _ = _
                        unfold nextB
                        rw [← HTT.out, h1]; simp only []
                        rw [decide_eq_false hxr, Bool.and_false]
                      have hdl : decide (x2 ≤ r) = false := decide_eq_false hxr
                      clear h1
                      go_wp2
                      go_roundw
                      case rel => exact ⟨k + 1, c2, by omega, by go_num, rfl, rfl, rfl, by omega, hide (HNS.out HN1.out), HK7, HOW7, HG7.out⟩
                      case measure => simp [intOf] <;> omega
              · have hzb : ((z : Int) == 0) = false := by simp; omega
                have HN1 : Hid (nextB L (fun i => bl.getD i 0) d S a r k = false) := by
                  show _ = _
                  have hno : mayB (fun i => bl.getD i 0) S k = false := by
                    show (!S.testBit k && decide (sdiff (bl.getD k 0) S = 0)) = false
                    rw [← HM.out, ← HZ.out, hbt]; simp [hz0]
                  unfold nextB
                  rw [hno]; rfl
                clear hbt hg hb9
                go_wp2
                go_roundw
                case rel => exact ⟨k + 1, cn, by omega, by go_num, rfl, rfl, rfl, by omega, hide (HNS.out HN1.out), hide (HK.out.alloc _), hide (HOW.out.alloc _), HGA.out _⟩
                case measure => simp [intOf] <;> omega
          · exfalso
            obtain ⟨i, hi, hp⟩ := HGS.out.some_
            rw [HNO.out i (by rw [HN.out] at hi; omega)] at hp
            cases hp
      · obtain rfl : q = n := by omega
        obtain rfl : d = 0 := by omega
        have HEQ : Hid (l = gr L (fun i => bl.getD i 0) q 0 0 r) := by
          have h9 := HGS.out.eq_
          rw [HN.out] at h9
          rw [show gr L (fun i => bl.getD i 0) 0 S a r = [] from rfl, List.append_nil] at h9
          exact hide h9
        have HIX := hide (ints_of_own HOW.out)
        have HGO := hide hg
        clear hg hSn hSc
        go_wp2
        exact bodyPost_ret (v := .tuple #[.slice X q c', .int .i64 r, .int .i64 0]) (by simp [results, Try.results40, go_sem]) rfl (HPO.out _ _ ⟨.inr ⟨r, X, c', HF1.out, rfl, hqc, by rw [← HEQ.out]; exact HIX.out⟩, HBG.out _ HGO.out⟩)
end Go.Proofs.Ytiadineakhcclaa
