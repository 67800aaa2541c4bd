/-
  dates: the reference's least, by induction on the jobs to come; Least.
-/
import Derived.Test.YtiadineakhcclaaDMay
import Derived.Test.YtiadineakhcclaaAppAny
import Derived.Test.YtiadineakhcclaaInfo
import Derived.Deep.Cut
namespace Go.Proofs.Ytiadineakhcclaa
open Go.RowKit Go.Deep
set_option linter.unusedVariables false
set_option linter.unusedSimpArgs false

/-- begun[:len(begun):len(begun)]. -/
theorem slice_hmd (A : Option Addr) (m c : Nat) (hmc : m ≤ c) (w : World) : (Instr.slice 41 (.slice A m c) none (some (.int .i64 m)) (some (.int .i64 m))).run Try.prog w = .ok (.slice A m m) w := by
  have ht : Try.prog.underlying 41 = some (.slice (Try.prog.elem 41)) := by kernel_rfl
  have hz : (sizeOf (Try.prog.elem 41)).run Try.prog w = .ok 1 w := by kernel_rfl
  rw [run_slice_any (ht := ht)]
  have hb : (Instr.sliceBounds true m c none (some (.int .i64 m)) (some (.int .i64 m))).run Try.prog w = .ok (0, m, m) w := by
    simp [Instr.sliceBounds, run_sliceBound, Result.andThen, hmc]
  rw [hb]
  simp only [Result.andThen, hz]
  unfold sliced
  by_cases h : m = 0
  · simp [h]
  · rw [if_neg h]
    cases A with
    | none => rfl
    | some a => simp [Addr.add]
/-- What least holds: the best so far and its greatest delay. -/
structure LBest (w : World) (x : List Nat × Int) (Z : Option Addr) (zl : Nat) (v : Int) : Prop where
  val : x.2 = v
  len : x.1.length = zl
  le : zl ≤ 8
  ints : IntsA w w.heap.size Z (up x.1)
  nil_ : zl = 0 → Z = none
  bd : -1000 ≤ v ∧ v ≤ 1073741824
theorem LBest.next {w w' : World} {x : List Nat × Int} {Z : Option Addr} {zl : Nat} {v : Int} (h : LBest w x Z zl v) (hb : Below w.heap.size w w') : LBest w' x Z zl v := ⟨h.val, h.len, h.le, h.ints.next hb, h.nil_, h.bd⟩
def LPost (L : List J4) (B : Nat → Nat) (d : Nat) (b : List Nat) (x : List Nat × Int) (w : World) (e : Ending) (w' : World) : Prop :=
  ∃ Z zl zc v, e = .returned (.tuple #[.slice Z zl zc, .int .i64 v]) ∧ zl ≤ zc ∧ LBest w' (rl L B d b x) Z zl v ∧ Below w.heap.size w w'
set_option maxRecDepth 100000 in
set_option maxHeartbeats 3200000 in
theorem least_d (A : Option Addr) (n c : Nat) (L : List J4) (PA : Option Addr) (m pc : Nat) (P : List (Int × Int)) (hn : L.length = n) (hL : JobsOk L) (hm : P.length = m) (hmm : m ≤ 9223372036854775807) (hok : prsOk P n = true) :
    ∀ (d : Nat) (b : List Nat) (q : Nat) (X : Option Addr) (xc : Nat) (x : List Nat × Int) (Z : Option Addr) (zl zc : Nat) (v : Int) (w : World), b.length = q → q + d = n → Begun L (befB P n) b → q ≤ xc → IntsA w w.heap.size X (up b) → (X = none → q = 0) → (∀ i ∈ b, i < n) → LBest w x Z zl v → zl ≤ zc →
      JobsA w w.heap.size A L → PrsA w w.heap.size PA P →
    Calls Try.prog 69 #[.slice A n c, .slice PA m pc, .slice X q xc, .slice Z zl zc, .int .i64 v] w (LPost L (befB P n) d b x w) := by
  have h8 : n ≤ 8 := by rw [← hn]; exact hL.le
  have h1 : 1 ≤ n := by rw [← hn]; exact hL.pos
  have HN := hide hn
  have HL := hide hL
  have HM := hide hm
  have HOK := hide hok
  clear hn hL hm hok
  intro d
  induction d with
  | zero =>
    intro b q X xc x Z zl zc v w hb hqd hbg hqx hX hXn hbn hx hzc hA hP
    obtain rfl : q = n := by omega
    have hord : ordB (up b) q = true := by rw [← HN.out]; exact okO_ord hbg (by rw [hb, HN.out])
    have HW := hide (refWorst_any A q c L X q xc (up b) w HN.out HL.out (by rw [up_length, hb]) h8 (ordB_iff.1 hord).2.1 hA hX)
    have hle := late_eq HL.out (b := b) (by rw [HN.out]; exact hord)
    rw [HN.out] at hle
    rw [hle] at HW
    have hrl : rl L (befB P q) 0 b x = if lateOf L 0 b < x.2 then (b, lateOf L 0 b) else x := rfl
    have hlb : -1000 ≤ lateOf L 0 b ∧ lateOf L 0 b ≤ 1000 := by
      obtain ⟨y, hy1, hy2⟩ := low_worst (L := L) (B := befB P q) b 0 hbg.ok
      have h2 := worst_bd HL.out _ _ _ hy1
      rw [atS_zero] at hy2
      refine ⟨by omega, ?_⟩
      rw [← hle]
      refine (rdelTo_le q).2 ⟨by omega, fun j hj => ?_⟩
      have h3 := rowTo_bd HL.out (o := up b) (by rw [HN.out]; exact (ordB_iff.1 hord).2.1) (up b).length (Nat.le_refl _) j
      have h4 := HL.out.at_ j (by rw [HN.out]; exact hj)
      rw [up_length, hb] at h3
      unfold rowN
      rw [up_length, hb]
      omega
    obtain ⟨W, hW⟩ : ∃ W, W = lateOf L 0 b := ⟨_, rfl⟩
    rw [← hW] at HW hrl hlb
    rw [hx.val] at hrl
    have HRL := hide hrl
    have HX := hide hX
    have HXX := hide hx
    have HB := hide hb
    have HBL : Hid ((up b).length = q) := by rw [up_length]; exact hide hb
    have hqq : ((q : Int) == (q : Int)) = true := by simp
    clear hb hqd hbg hX hx hA hP hle hrl hW hord hbn
    by_cases hlt : W < v
    · have hltd : decide (W < v) = true := decide_eq_true hlt
      have hrl := HRL.out
      rw [if_pos hlt] at hrl
      have HR := hide hrl
      clear hrl HRL
      go_enter Try.func69, Try.ntmps69
      go_wp2_with (first
        | (go_at_call 80; refine (HW.out).mono ?_; rintro e w1 ⟨rfl, hb1⟩; have HB1 := hide hb1; have HX1 := hide ((HX.out.next hb1).keep (w' := w1.alloc (.cells #[] 3)) fun p hp => World.cell?_alloc_lt _ _ _ hp); have hown : (w1.alloc (.cells #[] 3)).ownsRow w1.heap.size 3 1 (.slice (some ⟨w1.heap.size, 0, none⟩) 0 0) 0 (([] : List Int).map (Value.int .i64)) := ⟨rfl, .inr ⟨w1.heap.size, 0, #[], rfl, Nat.le_refl _, alloc_new _ _ _ rfl, Nat.le_refl _, by decide, rfl, rfl⟩⟩; have HO := hide hown; clear hown hb1)
        | (at_builtin; refine wpList_appAny _ _ 41 3 (.int .i64 0) 8 rfl rfl Try.underlying41 info_int rfl w1.heap.size (.slice (some ⟨w1.heap.size, 0, none⟩) 0 0) 0 _ rfl X q xc _ (up b) rfl HBL.out HX1.out HO.out (by omega) (by omega) (by simp) ?_; intro A9 c9 w9 hown9 hd9 hd9b hgrow9 hor9 hkp9; have HOW9 := hide hown9; have HG9 := hide hgrow9; clear hown9 hgrow9 hor9 hkp9))
      go_ret2
      have hI : IntsA w9 w9.heap.size A9 (up b) := ints_of_own (by simpa using HOW9.out)
      refine ⟨A9, q, c9, W, by simp, by omega, ⟨by rw [HR.out], by rw [HR.out]; exact HB.out, h8, by rw [HR.out]; exact hI, fun h => by omega, by omega⟩, ?_⟩
      exact HB1.out.trans ((((Below.refl w1.heap.size w1).alloc (Nat.le_refl _) _).grown HG9.out (by simp) (fun g hg => by simp [Value.ownBlock] at hg; omega)).mono HB1.out.size)
    · have hltd : decide (W < v) = false := decide_eq_false hlt
      have hrl := HRL.out
      rw [if_neg hlt] at hrl
      have HR := hide hrl
      clear hrl HRL
      go_enter Try.func69, Try.ntmps69
      go_wp2_with (first
        | (go_at_call 80; refine (HW.out).mono ?_; rintro e w1 ⟨rfl, hb1⟩; have HB1 := hide hb1; clear hb1))
      go_ret2
      exact ⟨Z, zl, zc, v, rfl, hzc, by rw [HR.out]; exact HXX.out.next HB1.out, HB1.out⟩
  | succ d ih =>
    intro b q X xc x Z zl zc v w hb hqd hbg hqx hX hXn hbn hx hzc hA hP
    have hqn : ((q : Int) == (n : Int)) = false := by simp; omega
    have hqn2 : ¬ q = n := by omega
    have HIH := hide ih
    have HB := hide hb
    have HBG := hide hbg
    have HX := hide hX
    have HXN := hide hXn
    have HBN := hide hbn
    have HXX := hide hx
    have HA := hide hA
    have HP := hide hP
    have HRL : Hid (rl L (befB P n) (d + 1) b x = rlF (rl L (befB P n) d) (befB P n) b x n) := hide (by rw [← HN.out]; rfl)
    have hsl := slice_hmd X q xc hqx
    have hbd0 := hx.bd
    clear ih hb hbg hX hXn hbn hx hA hP
    go_enter Try.func69, Try.ntmps69
    go_wp2
    go_loopw [3, 4, 33] (fun v3 v4 v33 wr => ∃ (k zl zc : Nat) (v : Int) (Z : Option Addr), k ≤ n ∧ v33 = .int .i64 k ∧ v3 = .slice Z zl zc ∧ v4 = .int .i64 v ∧ zl ≤ zc ∧ Hid (LBest wr (rlF (rl L (befB P n) d) (befB P n) b x k) Z zl v) ∧ Below w.heap.size w wr) (fun _ _ v _ => n - (intOf v).toNat)
    case atStart => exact ⟨0, zl, zc, v, Z, Nat.zero_le _, rfl, rfl, rfl, hzc, HXX, Below.refl _ _⟩
    case round =>
      obtain ⟨k, zl, zc, v, Z, hk, rfl, rfl, rfl, hzc, HBS, hbl⟩ := hrel
      obtain ⟨w0, rfl⟩ : ∃ w0 : World, w0 = wr := ⟨_, rfl⟩
      have HBL := hide hbl
      by_cases hlt : k < n
      · have hkn : (k : Int) < (n : Int) := by omega
        have HMAY := hide (may_any A n c PA m pc P X q xc b k w0 h8 HM.out hmm HOK.out HB.out (by omega) HBN.out hlt (HP.out.next hbl) (HX.out.next hbl))
        have HF1 : Hid (rlF (rl L (befB P n) d) (befB P n) b x (k + 1) = if mayB (befB P n) (maskL b) k = true then rl L (befB P n) d (b ++ [k]) (rlF (rl L (befB P n) d) (befB P n) b x k) else rlF (rl L (befB P n) d) (befB P n) b x k) := hide rfl
        clear hbl
        cases hmay : mayB (befB P n) (maskL b) k with
        | false =>
          rw [hmay] at HMAY HF1
          clear hmay
          go_wp2_with (go_at_call 81; refine (HMAY.out).mono ?_; rintro e w1 ⟨rfl, hb1⟩; have HB1 := hide hb1; clear hb1)
          go_roundw
          case rel => exact ⟨k + 1, zl, zc, v, Z, by omega, by go_num, rfl, rfl, hzc, hide (by rw [HF1.out, if_neg (by decide)]; exact HBS.out.next HB1.out), HBL.out.trans (HB1.out.mono HBL.out.size)⟩
          case measure => simp [intOf] <;> omega
        | true =>
          have HBGS := hide (HBG.out.snoc (k := k) (by rw [HN.out]; exact hlt) hmay)
          rw [hmay] at HMAY HF1
          clear hmay
          go_wp2_with (first
            | (go_at_call 81; refine (HMAY.out).mono ?_; rintro e w1 ⟨rfl, hb1⟩; have HB1 := hide hb1; have HB01 := hide (HBL.out.trans (hb1.mono HBL.out.size)); have HBS1 := hide (HBS.out.next hb1); clear hb1)
            | ((with_reducible show wpList _ _ _ (⟨some 52, _, _, _, _, _⟩ :: _) _ _); refine wpList_appFull1 (w0 := w1) _ _ 41 3 (.int .i64 0) 8 rfl rfl Try.underlying41 info_int rfl X q q w1.heap.size (up b) (k : Int) _ rfl rfl (by rw [up_length]; exact HB.out) HXN.out (HX.out.next HB01.out) (by omega) (by omega) ?_; intro g cg w2 hcg hI1 hg1 hg2 hb2; have HI1 := hide hI1; have HB02 := hide (HB01.out.trans (hb2.mono HB01.out.size)); have HBS2 := hide (HBS1.out.next hb2); clear hI1 hb2)
            | (go_at_call 69; refine (HIH.out (b ++ [k]) (q + 1) (some ⟨g, 0, none⟩) cg _ Z zl zc v w2 (by rw [List.length_append, HB.out]; rfl) (by omega) HBGS.out hcg (by simpa [up] using HI1.out) (fun e => by cases e) (fun i hi => by rcases List.mem_append.1 hi with hi | hi; exact HBN.out i hi; simp at hi; omega) HBS2.out hzc (HA.out.next HB02.out) (HP.out.next HB02.out)).mono ?_; rintro e w3 ⟨Z3, zl3, zc3, v3, rfl, hzc3, hb3, hbl3⟩; have HBS3 := hide hb3; have HB03 := hide (HB02.out.trans (hbl3.mono HB02.out.size)); clear hb3 hbl3))
          go_roundw
          case rel => exact ⟨k + 1, zl3, zc3, v3, Z3, by omega, by go_num, rfl, rfl, hzc3, hide (by rw [HF1.out]; exact HBS3.out), HB03.out⟩
          case measure => simp [intOf] <;> omega
      · obtain rfl : n = k := by omega
        rw [← HRL.out] at HBS
        go_wp2
        go_ret2
        exact ⟨Z, zl, zc, v, rfl, hzc, HBS.out, HBL.out⟩
set_option maxRecDepth 100000 in
set_option maxHeartbeats 1600000 in
theorem refLeast_any (A : Option Addr) (n c : Nat) (L : List J4) (PA : Option Addr) (m pc : Nat) (P : List (Int × Int)) (w : World) (hn : L.length = n) (hL : JobsOk L) (hm : P.length = m) (hmm : m ≤ 9223372036854775807) (hok : prsOk P n = true) (hA : JobsA w w.heap.size A L) (hP : PrsA w w.heap.size PA P) :
    Calls Try.prog 43 #[.slice A n c, .slice PA m pc] w fun e w' => (worstF L (befB P n) n 0 = none ∧ e = .returned (.tuple #[.slice none 0 0, .int .i64 0, .int .i64 6]) ∨ ∃ r Z zc, worstF L (befB P n) n 0 = some r ∧ e = .returned (.tuple #[.slice Z n zc, .int .i64 r, .int .i64 0]) ∧ n ≤ zc ∧
      IntsA w' w'.heap.size Z (up (gr L (befB P n) n 0 0 r))) ∧ Below w.heap.size w w' := by
  have hq := fun (w : World) (a : Option Addr) (n c n' c' : Nat) => Lib.run_eql_slice_nil (P := Try.prog) w 41 _ a n c n' c' Try.underlying41
  have HD := hide (least_d A n c L PA m pc P hn hL hm hmm hok n [] 0 none 0 ([], 1073741824) none 0 0 1073741824 w rfl (by omega) (Begun.nil_ L _) (Nat.le_refl _) IntsA.nil_ (fun _ => rfl) (fun i hi => by cases hi) ⟨rfl, rfl, by omega, IntsA.nil_, fun _ => rfl, by omega, by omega⟩ (Nat.le_refl _) hA hP)
  have hrl := rl_eq (L := L) (B := befB P n) n [] ([], 1073741824) (Begun.nil_ L _) (by rw [hn]; exact Nat.zero_add _)
  have hwb := worst_bd hL (B := befB P n) n 0
  have hgl := gr_ok (L := L) (B := befB P n) (v := 0)
  have hgl2 := fun r (h : worstF L (befB P n) n 0 = some r) => (gr_ok (L := L) (B := befB P n) (v := r) (hwb r h).1 n 0 r h (Int.le_refl _)).2.1
  have h1 : 1 ≤ n := by rw [← hn]; exact hL.pos
  have hl0 : lateOf L 0 [] = -1000 := rfl
  have hm0 : maskL [] = 0 := rfl
  rw [hl0, hm0, atS_zero] at hrl
  rw [atS_zero] at hgl2
  cases hw : worstF L (befB P n) n 0 with
  | none =>
    rw [hw] at hrl
    have HRL := hide hrl
    clear hA hP hgl hgl2 hwb hrl hw hl0 hm0
    go_enter Try.func43, Try.ntmps43
    go_wp2_with fail
    refine (HD.out).mono ?_
    rintro e w1 ⟨Z, zl, zc, v, rfl, hzc, hb, hbl⟩
    have h2 := hb.len
    rw [HRL.out] at h2
    obtain rfl : 0 = zl := h2
    obtain rfl := hb.nil_ rfl
    have HBL := hide hbl
    clear hb hbl
    go_wp2
    exact bodyPost_ret (v := .tuple #[.slice none 0 0, .int .i64 0, .int .i64 6]) (by simp [results, Try.results43, go_sem]) rfl ⟨.inl ⟨trivial, rfl⟩, HBL.out⟩
  | some r =>
    have hr := hwb r hw
    have hgn := hgl2 r hw
    rw [hw] at hrl
    simp only [] at hrl
    rw [show max (-1000) r = r by omega, if_pos (by omega), List.nil_append] at hrl
    have HRL := hide hrl
    have HGN := hide hgn
    clear hA hP hgl hgl2 hwb hrl hw hl0 hm0 hgn
    go_enter Try.func43, Try.ntmps43
    go_wp2_with fail
    refine (HD.out).mono ?_
    rintro e w1 ⟨Z, zl, zc, v, rfl, hzc, hb, hbl⟩
    have h2 := hb.len
    have h3 := hb.val
    have h4 := hb.ints
    rw [HRL.out] at h2 h3 h4
    have hzn : n = zl := HGN.out.symm.trans h2
    subst hzn
    obtain rfl : r = v := h3
    have HI := hide h4
    obtain ⟨bz, oz, x, rfl, _⟩ := h4.at_ (k := 0) (by rw [up_length]; show 0 < (gr L (befB P n) n 0 0 r).length; rw [HGN.out]; omega)
    have HBL := hide hbl
    clear hb hbl h2 h4
    go_wp2
    exact bodyPost_ret (v := .tuple #[.slice (some ⟨bz, oz, none⟩) n zc, .int .i64 r, .int .i64 0]) (by simp [results, Try.results43, go_sem]) rfl ⟨.inr ⟨r, _, zc, rfl, rfl, hzc, HI.out⟩, HBL.out⟩
end Go.Proofs.Ytiadineakhcclaa
