/-
  swap: market.trade: what people get, and in which rounds.
-/
import Derived.Test.YtgognkofnegobaaInfo
import Derived.Test.YtgognkofnegobaaOwner
import Derived.Test.YtgognkofnegobaaOnCycle
import Derived.Test.YtgognkofnegobaaBase
import Derived.Deep.DeepCutAuto
namespace Go.Proofs.Ytgognkofnegobaa
open Go.RowKit
set_option linter.unusedVariables false
set_option linter.unusedSimpArgs false

/-- What the call's own memory holds: the market (block mb), the rows that it fills (bo, br), the things that are left (tb). -/
structure TrMem (w wr : World) (A H : Option Addr) (n c c' mb bo br tb T : Nat) (out rounds : Nat → Nat) : Prop where
  ro : wr.rowIs bo 3 n (fun i => .int .i64 (out i))
  rr : wr.rowIs br 3 n (fun i => .int .i64 (rounds i))
  m : wr.heap[mb]? = some (.cells #[.slice A n c, .slice H n c'] 60 (0, 0))
  t : wr.heap[tb]? = some (.cells #[.int .i64 (T : Int)] 3 (0, 0))
  bel : Below w.heap.size w wr
section
variable {w wr w1 : World} {A H : Option Addr} {n c c' mb bo br tb T : Nat} {out rounds : Nat → Nat}
theorem TrMem.next (h : TrMem w wr A H n c c' mb bo br tb T out rounds) (hb : Below wr.heap.size wr w1) : TrMem w w1 A H n c c' mb bo br tb T out rounds :=
  ⟨h.ro.of_block (hb.block _ h.ro.lt), h.rr.of_block (hb.block _ h.rr.lt), (hb.block _ (lt_of_block h.m)).trans h.m, (hb.block _ (lt_of_block h.t)).trans h.t, h.bel.trans (hb.mono h.bel.size)⟩
theorem TrMem.drew (h : TrMem w wr A H n c c' mb bo br tb T out rounds) : TrMem w wr.drew A H n c c' mb bo br tb T out rounds := ⟨h.ro.drew, h.rr.drew, h.m, h.t, h.bel.drew⟩
theorem TrMem.m0 (h : TrMem w wr A H n c c' mb bo br tb T out rounds) : wr.cell? ⟨mb, 0, none⟩ = some (.slice A n c) := blk_cell h.m 0
theorem TrMem.m1 (h : TrMem w wr A H n c c' mb bo br tb T out rounds) : wr.cell? ⟨mb, 1, none⟩ = some (.slice H n c') := blk_cell h.m 1
theorem TrMem.t0 (h : TrMem w wr A H n c c' mb bo br tb T out rounds) : wr.cell? ⟨tb, 0, none⟩ = some (.int .i64 (T : Int)) := blk_cell h.t 0
theorem TrMem.tf (h : TrMem w wr A H n c c' mb bo br tb T out rounds) : wr.frozen? ⟨tb, 0, none⟩ = false := blk_free h.t 0
theorem TrMem.setBoth (h : TrMem w wr A H n c c' mb bo br tb T out rounds) (hd : bo ≠ br ∧ bo ≠ tb ∧ br ≠ tb ∧ bo ≠ mb ∧ br ≠ mb ∧ w.heap.size ≤ bo ∧ w.heap.size ≤ br) (j x y : Nat) :
    TrMem w ((wr.setCell ⟨bo, j, none⟩ (.int .i64 (x : Int))).setCell ⟨br, j, none⟩ (.int .i64 (y : Int))) A H n c c' mb bo br tb T (fun i => if i = j then x else out i) (fun i => if i = j then y else rounds i) := by
  obtain ⟨h1, h2, h3, h4, h5, h6, h7⟩ := hd
  refine ⟨((h.ro.set j _).setOther (by show bo ≠ br; omega) _).congr (fun i _ => ?_), ((h.rr.setOther (by show br ≠ bo; omega) _).set j _).congr (fun i _ => ?_), ?_, ?_, (h.bel.setCell (by show w.heap.size ≤ bo; omega) _).setCell (by show w.heap.size ≤ br; omega) _⟩
  · split <;> rfl
  · split <;> rfl
  · rw [blk_far _ (by omega), blk_far _ (by omega)]; exact h.m
  · rw [blk_far _ (by omega), blk_far _ (by omega)]; exact h.t
theorem TrMem.setT (h : TrMem w wr A H n c c' mb bo br tb T out rounds) (hd : bo ≠ tb ∧ br ≠ tb ∧ mb ≠ tb ∧ w.heap.size ≤ tb) (T' : Nat) :
    TrMem w (wr.setCell ⟨tb, 0, none⟩ (.int .i64 (T' : Int))) A H n c c' mb bo br tb T' out rounds := by
  obtain ⟨h1, h2, h3, h4⟩ := hd
  refine ⟨h.ro.setOther (by show bo ≠ tb; omega) _, h.rr.setOther (by show br ≠ tb; omega) _, ?_, blk_set h.t 0 _, h.bel.setCell (by show w.heap.size ≤ tb; omega) _⟩
  rw [blk_far _ (by omega)]; exact h.m
theorem TrMem.congr (h : TrMem w wr A H n c c' mb bo br tb T out rounds) {out' rounds' : Nat → Nat} (ho : ∀ i, i < n → out i = out' i) (hr : ∀ i, i < n → rounds i = rounds' i) : TrMem w wr A H n c c' mb bo br tb T out' rounds' :=
  ⟨h.ro.congr (fun i hi => by rw [ho i hi]), h.rr.congr (fun i hi => by rw [hr i hi]), h.m, h.t, h.bel⟩
end

theorem two_rows (w : World) (o : Obj) (n e : Nat) (w3 : World) (hw3 : w3 = ((w.alloc o).alloc (.cells (madeCells #[.int .i64 0] n) e)).alloc (.cells (madeCells #[.int .i64 0] n) e)) :
    w3.drew.rowIs (w.heap.size + 1) e n (fun _ => .int .i64 0) ∧ w3.drew.rowIs (w.heap.size + 1 + 1) e n (fun _ => .int .i64 0) ∧ w3.drew.heap[w.heap.size]? = some o ∧ Below w.heap.size w w3.drew := by
  subst hw3
  have e1 := World.rowIs_made (w.alloc o) (.int .i64 0) n e
  have e2 := World.rowIs_made ((w.alloc o).alloc (.cells (madeCells #[.int .i64 0] n) e)) (.int .i64 0) n e
  have s1 : (w.alloc o).heap.size = w.heap.size + 1 := by simp
  have s2 : ((w.alloc o).alloc (.cells (madeCells #[.int .i64 0] n) e)).heap.size = w.heap.size + 1 + 1 := by simp
  rw [s1] at e1
  rw [s2] at e2
  exact ⟨(e1.alloc _).drew, e2.drew, alloc_old _ _ _ (by rw [s2]; omega) (alloc_old _ _ _ (by rw [s1]; omega) (alloc_new _ _ _ rfl)),
    ((((Below.refl _ _).alloc (Nat.le_refl _) _).alloc (by rw [s1]; omega) _).alloc (by rw [s2]; omega) _).drew⟩

theorem goes_next : Goes Try.prog 69 := goes_of Try.func69 (by kernel_rfl) (by kernel_rfl)
/-- Whom everyone points to, asked of the market as it lies in memory, in whatever world comes. -/
theorem next_calls {w wi : World} {A H : Option Addr} {n c c' mb bo br tb T : Nat} {out rounds : Nat → Nat} {W : List (List Nat)} {has : List Nat} {L B : Nat} (hm : TrMem w wi A H n c c' mb bo br tb T out rounds)
    (hA : RowsA w B A (upp W)) (hB : B ≤ w.heap.size) (hH : IntsA w B H (up has)) (hM : Mkt W has n) (hl : LeftOk has n L T) (hn60 : n ≤ 60) :
    ∀ w', Below wi.heap.size wi w' → ∀ i, LeftS n L i → Calls Try.prog 69 (#[.int .i64 i] ++ #[.pointer (some ⟨mb, 0, none⟩), .pointer (some ⟨tb, 0, none⟩)]) w'
      fun e w'' => e = .returned (.int .i64 (nextF W has T i)) ∧ Below w'.heap.size w' w'' := by
  intro w' hw' i hi
  have h1 := hm.next hw'
  have hbm := best_mem (hM.some_wish hl hi.1 hi.2)
  refine next_any A H n c n c' B i T mb tb W has w' hM.len hn60 hM.hlen hn60 (hA.below (h1.bel.mono hB)) (hH.below (h1.bel.mono hB)) hi.1 (Nat.lt_of_lt_of_le hl.tlt (Nat.pow_le_pow_right (by decide) hn60))
    (by rw [(hM.rows i hi.1).1]; omega) (fun g hg => by have := ((hM.rows i hi.1).2 g).1 hg; omega) (hM.some_wish hl hi.1 hi.2) ?_ h1.m0 h1.m1 h1.t0
  exact (hM.hmem _).2 (((hM.rows i hi.1).2 _).1 hbm.1)

set_option maxRecDepth 100000 in
set_option maxHeartbeats 1600000 in
theorem trade_any (A H : Option Addr) (n c c' B : Nat) (W : List (List Nat)) (has : List Nat) (w : World) (hn60 : n ≤ 60) (hA : RowsA w B A (upp W)) (hH : IntsA w B H (up has)) (hM : Mkt W has n) :
    Calls Try.prog 40 #[.agg #[.slice A n c, .slice H n c']] w (TwoRows n (listF n (traded W has).1) (listF n (traded W has).2) w) := by
  have hmk := run_make_row' (P := Try.prog) 24 3 (.int .i64 0) 8 Try.underlying24 info_int rfl .i64 .i64 n (by omega) (by omega)
  go_enter Try.func40, Try.ntmps40
  go_upto_region 2 with (fail)
  go_cut [2, 3] (fun so sr wx => ∃ bo br : Nat, so = .slice (some ⟨bo, 0, none⟩) n n ∧ sr = .slice (some ⟨br, 0, none⟩) n n ∧ bo ≠ br ∧ w.heap.size < bo ∧ w.heap.size < br ∧
    wx.rowIs bo 3 n (fun _ => .int .i64 0) ∧ wx.rowIs br 3 n (fun _ => .int .i64 0) ∧ wx.heap[w.heap.size]? = some (.cells #[.slice A n c, .slice H n c'] 60 (0, 0)) ∧ Below w.heap.size w wx)
  case first =>
    go_region
    · go_wp2_with fail
      go_meet
      have h := two_rows w (.cells #[.slice A n c, .slice H n c'] 60) n 3 _ rfl
      exact ⟨w.heap.size + 1, w.heap.size + 1 + 1, rfl, rfl, by omega, by omega, by omega, h.1, h.2.1, h.2.2.1, h.2.2.2⟩
    · go_wp2_with fail
      go_meet
      have h := two_rows w (.cells #[.slice A n c, .slice H n c'] 60) n 3 _ rfl
      exact ⟨w.heap.size + 1 + 1, w.heap.size + 1, rfl, rfl, by omega, by omega, by omega, h.2.1, h.1, h.2.2.1, h.2.2.2⟩
  case rest =>
    obtain ⟨bo, br, rfl, rfl, hne, hbo, hbr, hro, hrr, hmb, hbel⟩ := hcut
    have hL := full_nat n (by omega)
    have hsz : bo < wc.heap.size ∧ br < wc.heap.size := ⟨hro.lt, hrr.lt⟩
    go_wp2
    go_region
    go_wp2
    have hm0 : TrMem w (wc.alloc (.cells #[.int .i64 ((2 ^ n - 1 : Nat) : Int)] 3)).drew A H n c c' w.heap.size bo br wc.heap.size (2 ^ n - 1) (fun _ => 0) (fun _ => 0) :=
      ⟨(hro.alloc _).drew, (hrr.alloc _).drew, alloc_old _ _ _ (by omega) hmb, alloc_new _ _ _ rfl, (hbel.alloc hbel.size _).drew⟩
    generalize htb : wc.heap.size = tb at *
    have hd : (bo ≠ br ∧ bo ≠ tb ∧ br ≠ tb ∧ bo ≠ w.heap.size ∧ br ≠ w.heap.size ∧ w.heap.size ≤ bo ∧ w.heap.size ≤ br) ∧ w.heap.size < tb := by omega
    have HD := hide hd
    have HL := hide hL
    clear htb hro hrr hmb hbel hL hd hne hbo hbr hsz
    have hA1 := hA.top
    have hH1 := hH.top
    have hrows : ∀ i, i < n → (W.getD i []).length ≤ 60 ∧ ∀ g ∈ W.getD i [], g < 60 := fun i hi => ⟨by rw [(hM.rows i hi).1]; omega, fun g hg => by have := ((hM.rows i hi).2 g).1 hg; omega⟩
    have HRW := hide hrows
    clear hrows hmk
    go_loopw [5, 7] (fun l r wr => ∃ (L T q fuel : Nat) (out rounds : Nat → Nat), l = .int .i64 L ∧ r = .int .i64 q ∧ q + fuel ≤ n ∧ TrMem w wr A H n c c' w.heap.size bo br tb T out rounds ∧
        Hid (LeftOk has n L T ∧ cardF n L ≤ fuel ∧ ttc W has n fuel L T q out rounds = traded W has)) (fun l _ _ => (intOf l).toNat)
    case atStart =>
      refine ⟨2 ^ n - 1, 2 ^ n - 1, 0, n, _, _, by rw [HL.out], rfl, by omega, hm0, hM.start, cardF_le _ _, ?_⟩
      rw [traded, hM.len]
    case round =>
      obtain ⟨L, T, q, fuel, out, rounds, rfl, rfl, hq, hmem, HP⟩ := hrel
      clear hm0
      by_cases hL0 : L = 0
      · have hz : ((L : Int) != 0) = false := by simp [hL0]
        have HL0 := hide hL0
        clear hL0
        go_wp2
        go_ret2
        refine ⟨some ⟨bo, 0, none⟩, some ⟨br, 0, none⟩, n, n, rfl, ?_, ?_, hmem.bel, fun g hg => by simp [Value.ownBlock] at hg; have := HD.out; omega, fun g hg => by simp [Value.ownBlock] at hg; have := HD.out; omega⟩
        · have hres : traded W has = (out, rounds) := by
            rw [← HP.out.2.2, HL0.out]
            cases fuel <;> simp [ttc]
          rw [hres]
          exact ints_of_row hmem.ro (by simp [listF]) (fun i hi => by rw [up_getD]; simp [listF, List.getD_eq_getElem?_getD, hi])
        · have hres : traded W has = (out, rounds) := by
            rw [← HP.out.2.2, HL0.out]
            cases fuel <;> simp [ttc]
          rw [hres]
          exact ints_of_row hmem.rr (by simp [listF]) (fun i hi => by rw [up_getD]; simp [listF, List.getD_eq_getElem?_getD, hi])
      · have hz : ((L : Int) != 0) = true := by simp; omega
        have hlk := HP.out.1
        have hL62 : L < 2 ^ 60 := Nat.lt_of_lt_of_le hlk.lt (Nat.pow_le_pow_right (by decide) hn60)
        have hT62 : T < 2 ^ 60 := Nat.lt_of_lt_of_le hlk.tlt (Nat.pow_le_pow_right (by decide) hn60)
        obtain ⟨p, hp⟩ : ∃ p : Nat → Bool, p = fun i => L.testBit i && onCyc (nextF W has T) n i := ⟨_, rfl⟩
        have HPP := hide hp
        have HLK := hide hlk
        have HNZ : Hid (L ≠ 0) := hL0
        clear hp hlk hL0
        go_wp2
        obtain ⟨wo, hwo⟩ : ∃ wo : World, wo = wr := ⟨_, rfl⟩
        go_loopw [9, 31] (fun g k wi => ∃ j : Nat, j ≤ n ∧ k = .int .i64 j ∧ g = .int .i64 (maskF j p : Nat) ∧ TrMem w wi A H n c c' w.heap.size bo br tb T (fun i => if i < j ∧ p i = true then best (W.getD i []) T else out i) (fun i => if i < j ∧ p i = true then q else rounds i))
          (fun _ k _ => n - (intOf k).toNat)
        case atStart => exact ⟨0, Nat.zero_le _, rfl, rfl, hmem.congr (fun i _ => by simp) (fun i _ => by simp)⟩
        case round =>
          clear hmem hz hwo
          clear wo
          obtain ⟨j, hj, rfl, rfl, hm⟩ := hrel
          by_cases hlt : j < n
          · have hgl : maskF j p < 2 ^ 60 := Nat.lt_of_lt_of_le (maskF_lt j p) (Nat.pow_le_pow_right (by decide) (by omega))
            cases hb : L.testBit j
            · have ht : (bits BinOp.and IntKind.i64 ((L : Int) / 2 ^ j) 1 == 1) = false := by rw [shr_test L j (by omega)]; exact hb
              have hpj : p j = false := by rw [HPP.out]; simp [hb]
              have HPJ := hide hpj
              clear hpj hb
              go_wp2
              go_roundw
              case rel =>
                refine ⟨j + 1, by omega, by go_num, by simp [maskF, HPJ.out], hm.congr (fun i _ => ?_) (fun i _ => ?_)⟩
                · by_cases e : i = j
                  · subst e; simp [HPJ.out]
                  · simp only [show i < j + 1 ↔ i < j from by omega]
                · by_cases e : i = j
                  · subst e; simp [HPJ.out]
                  · simp only [show i < j + 1 ↔ i < j from by omega]
              case measure => simp [intOf]; omega
            · have ht : (bits BinOp.and IntKind.i64 ((L : Int) / 2 ^ j) 1 == 1) = true := by rw [shr_test L j (by omega)]; exact hb
              have HC := hide (onCycle_any 69 #[.pointer (some ⟨w.heap.size, 0, none⟩), .pointer (some ⟨tb, 0, none⟩)] A (.slice H n c') n c j (nextF W has T) (LeftS n L) wr goes_next (by omega)
                (hM.closed HLK.out) ⟨hlt, hb⟩ (next_calls hm hA1 (Nat.le_refl _) hH1 hM HLK.out hn60))
              have m0 := hm.m0
              have m1 := hm.m1
              have HB := hide hb
              clear hb
              cases hc : onCyc (nextF W has T) n j
              · have hpj : p j = false := by rw [HPP.out]; simp [hc]
                have HPJ := hide hpj
                rw [hc] at HC
                clear hpj hc
                go_wp2_with (go_at_call 72; refine (HC.out).mono ?_; rintro e w1 ⟨rfl, hb1⟩)
                go_roundw
                case rel =>
                  refine ⟨j + 1, by omega, by go_num, by simp [maskF, HPJ.out], (hm.next hb1).congr (fun i _ => ?_) (fun i _ => ?_)⟩
                  · by_cases e : i = j
                    · subst e; simp [HPJ.out]
                    · simp only [show i < j + 1 ↔ i < j from by omega]
                  · by_cases e : i = j
                    · subst e; simp [HPJ.out]
                    · simp only [show i < j + 1 ↔ i < j from by omega]
                case measure => simp [intOf]; omega
              · have hpj : p j = true := by rw [HPP.out]; simp [hc, HB.out]
                have HPJ := hide hpj
                rw [hc] at HC
                clear hpj hc
                have HBE : Hid (∀ w', Below w.heap.size w w' → Calls Try.prog 71 #[.slice A n c, .int .i64 j, .int .i64 (T : Int)] w' fun e w'' => e = .returned (.int .i64 (best (W.getD j []) T : Nat)) ∧ Below w'.heap.size w' w'') := fun w' hw' =>
                  best_any A n c w.heap.size j T W w' hM.len (by omega) (hA1.below hw') hlt hT62 (by have := (HRW.out j hlt).1; omega) (HRW.out j hlt).2 (hM.some_wish HLK.out hlt HB.out)
                have HSD : Hid (∀ w2, TrMem w w2 A H n c c' w.heap.size bo br tb T (fun i => if i < j ∧ p i = true then best (W.getD i []) T else out i) (fun i => if i < j ∧ p i = true then q else rounds i) →
                    (∃ v, w2.cell? ⟨bo, j, none⟩ = some v) ∧ w2.frozen? ⟨bo, j, none⟩ = false ∧ (∃ v', ∀ v, (w2.setCell ⟨bo, j, none⟩ v).cell? ⟨br, j, none⟩ = some v') ∧ ∀ v, (w2.setCell ⟨bo, j, none⟩ v).frozen? ⟨br, j, none⟩ = false) := fun w2 h2 =>
                  ⟨⟨_, h2.ro.cell hlt⟩, h2.ro.frozen j, ⟨_, fun v => (h2.rr.setOther (a := ⟨bo, j, none⟩) (by show br ≠ bo; have := HD.out; omega) v).cell hlt⟩, fun v => (h2.rr.setOther (a := ⟨bo, j, none⟩) (by show br ≠ bo; have := HD.out; omega) v).frozen j⟩
                go_wp2_with (first
                  | (go_at_call 72; refine (HC.out).mono ?_; rintro e w1 ⟨rfl, hb1⟩; have hm1 := hm.next hb1; have m0' := hm1.m0; have t0' := hm1.t0)
                  | (go_at_call 71; refine (HBE.out _ hm1.bel).mono ?_; rintro e w2 ⟨rfl, hb2⟩; have hm2 := hm1.next hb2; obtain ⟨⟨v1, o1⟩, o2, ⟨v2, o3⟩, o4⟩ := HSD.out w2 hm2))
                go_roundw
                case rel =>
                  refine ⟨j + 1, by omega, by go_num, ?_, (hm2.setBoth HD.out.1 j (best (W.getD j []) T) q).congr (fun i _ => ?_) (fun i _ => ?_)⟩
                  · rw [shl_one j (by omega), bor_nat _ _ (by omega) (Nat.pow_lt_pow_right (by decide) (by omega))]
                    simp [maskF, HPJ.out]
                  · by_cases e : i = j
                    · subst e; simp [HPJ.out]
                    · simp only [if_neg e, show i < j + 1 ↔ i < j from by omega]
                  · by_cases e : i = j
                    · subst e; simp [HPJ.out]
                    · simp only [if_neg e, show i < j + 1 ↔ i < j from by omega]
                case measure => simp [intOf]; omega
          · obtain rfl : n = j := by omega
            have hG : goneF W has n L T = maskF n p := by rw [HPP.out]; rfl
            have hGl : maskF n p < 2 ^ n := maskF_lt n p
            have hG62 : maskF n p < 2 ^ 60 := Nat.lt_of_lt_of_le hGl (Nat.pow_le_pow_right (by decide) hn60)
            have hand : bits BinOp.andNot IntKind.i64 (L : Int) (maskF n p : Nat) = ((sdiff L (maskF n p) : Nat) : Int) := bandNot_nat L _ (by omega) (by omega)
            have hpG : Hid (∀ i, i < n → (p i = true ↔ (maskF n p).testBit i = true)) := fun i hi => by rw [testBit_maskF]; simp [hi]
            generalize maskF n p = G at *
            have HG := hide hG
            clear hG
            have hm' := hm.congr (out' := fun i => if G.testBit i then best (W.getD i []) T else out i) (rounds' := fun i => if G.testBit i then q else rounds i) (fun i hi => by simp [hi, hpG.out i hi]) (fun i hi => by simp [hi, hpG.out i hi])
            clear hm hpG HPP
            go_wp2
            go_loopw [66] (fun k wi => ∃ (j Tq : Nat), j ≤ n ∧ k = .int .i64 j ∧ TrMem w wi A H n c c' w.heap.size bo br tb Tq (fun i => if G.testBit i then best (W.getD i []) T else out i) (fun i => if G.testBit i then q else rounds i) ∧ Tq < 2 ^ n ∧
                Hid (∀ g, Tq.testBit g = (T.testBit g && !(List.range j).any fun i => G.testBit i && has.getD i 0 == g))) (fun k _ => n - (intOf k).toNat)
            case atStart => exact ⟨0, T, Nat.zero_le _, rfl, hm', HLK.out.tlt, fun g => by simp⟩
            case round =>
              clear hm' hand
              obtain ⟨j, Tq, hj, rfl, hm, hTq, HTQ⟩ := hrel
              by_cases hlt : j < n
              · cases hb : G.testBit j
                · have ht : (bits BinOp.and IntKind.i64 ((G : Int) / 2 ^ j) 1 == 1) = false := by rw [shr_test G j (by omega)]; exact hb
                  have HB := hide hb
                  clear hb
                  go_wp2
                  go_roundw
                  case rel =>
                    refine ⟨j + 1, Tq, by omega, by go_num, hm, hTq, fun g => ?_⟩
                    rw [HTQ.out g, List.range_succ]
                    simp [HB.out]
                  case measure => simp [intOf]; omega
                · have ht : (bits BinOp.and IntKind.i64 ((G : Int) / 2 ^ j) 1 == 1) = true := by rw [shr_test G j (by omega)]; exact hb
                  have HB := hide hb
                  clear hb
                  obtain ⟨b, o, x, rfl, hbb, hc, hx⟩ := (hH1.below hm.bel).at_ (k := j) (by rw [up_length, hM.hlen]; exact hlt)
                  have hx' := hx.out
                  rw [up_getD] at hx'
                  have hhl := hM.has_lt hlt
                  generalize hhg : has.getD j 0 = hg at hx' hhl
                  subst hx'
                  have HHG := hide hhg
                  have m1 := hm.m1
                  have t0 := hm.t0
                  have tf := hm.tf
                  have hT62q : Tq < 2 ^ 60 := Nat.lt_of_lt_of_le hTq (Nat.pow_le_pow_right (by decide) hn60)
                  have hpw : (2 : Nat) ^ hg < 2 ^ 60 := Nat.pow_lt_pow_right (by decide) (by omega)
                  have hsd : bits BinOp.andNot IntKind.i64 (Tq : Int) (wrap64 (2 ^ hg)) = ((sdiff Tq (2 ^ hg) : Nat) : Int) := by
                    rw [shl_one hg (by omega), bandNot_nat Tq _ (by omega) (by omega)]
                  clear hhg hx hT62q hpw
                  go_wp2
                  go_region
                  go_wp2
                  go_roundw
                  case rel =>
                    refine ⟨j + 1, sdiff Tq (2 ^ hg), by omega, by go_num, ?_, sdiff_lt _ _ _ hTq (Nat.pow_lt_pow_right (by decide) (by omega)), fun g => ?_⟩
                    · have hd := HD.out
                      first
                        | exact (hm.setT ⟨by omega, by omega, by omega, by omega⟩ _).drew
                        | (rw [shl_one hg (by omega), bandNot_nat Tq _ (by omega) (by omega)]; exact (hm.setT ⟨by omega, by omega, by omega, by omega⟩ _).drew)
                    · rw [testBit_sdiff, HTQ.out g, List.range_succ, List.any_append, Nat.testBit_two_pow]
                      simp only [List.any_cons, List.any_nil, Bool.or_false, HB.out, Bool.true_and, HHG.out]
                      have : (hg == g) = decide (hg = g) := by rw [Bool.eq_iff_iff]; simp
                      rw [this]
                      cases T.testBit g <;> cases (List.range j).any (fun i => G.testBit i && has.getD i 0 == g) <;> cases decide (hg = g) <;> rfl
                  case measure => simp [intOf]; omega
              · obtain rfl : n = j := by omega
                have hk0 : 0 < cardF n L := by have := hM.card_step HLK.out HNZ.out; omega
                have hfu := HP.out.2.1
                have hfp : 0 < fuel := by omega
                clear hk0 hfu
                go_wp2
                go_roundw
                case rel =>
                  have hT' : Tq = sdiff T (takenF has n (goneF W has n L T)) := by
                    apply Nat.eq_of_testBit_eq
                    intro g
                    rw [HTQ.out g, testBit_sdiff, taken_bit, HG.out]
                    cases hg : T.testBit g with
                    | false => rfl
                    | true => rw [decide_eq_true (testBit_lt HLK.out.tlt hg)]; rfl
                  refine ⟨sdiff L G, Tq, q + 1, fuel - 1, _, _, rfl, by go_num, by omega, hm, ?_, ?_, ?_⟩
                  · rw [hT', ← HG.out]; exact hM.step HLK.out
                  · have := hM.card_step HLK.out HNZ.out
                    rw [HG.out] at this
                    have := HP.out.2.1
                    omega
                  · have h1 := HP.out.2.2
                    obtain ⟨f', rfl⟩ : ∃ f', fuel = f' + 1 := ⟨fuel - 1, by omega⟩
                    simp only [ttc, HNZ.out, if_false] at h1
                    rw [← h1, hT', HG.out]
                    rfl
                case measure =>
                  obtain ⟨i, hi, hb, hg⟩ := hM.some_gone HLK.out HNZ.out
                  rw [HG.out] at hg
                  have := sdiff_lt_self ⟨i, hb, hg⟩
                  simp [intOf]; omega
end Go.Proofs.Ytgognkofnegobaa
