/-
  DatesOrders, part 4 of 4: the texts LawDatesOrders, DOpen, DOpenP, joined.
-/
import Derived.Test.YtiadineakhcclaaMrgDatesOrders3
import Derived.Deep.RegionHeld3
import Derived.Deep.Cut
import Derived.Deep.Slices
import Derived.OpenShut

/-
  The walk of DatesOrders.
-/
namespace Go.Proofs.Ytiadineakhcclaa
open Go.RowKit Go.Deep
set_option linter.unusedVariables false
set_option linter.unusedSimpArgs false

theorem okBef_take (P : List (Int × Int)) (n : Nat) : okBef (P.take 18) n = okBef P n := by
  by_cases h : P.length ≤ 18
  · rw [List.take_of_length_le h]
  · unfold okBef
    rw [List.length_take, decide_eq_false (show ¬ min 18 P.length ≤ 16 by omega), decide_eq_false (show ¬ P.length ≤ 16 by omega), Bool.and_false, Bool.and_false]
theorem okBef_len {P : List (Int × Int)} {n : Nat} (h : okBef P n = true) : P.take 18 = P := List.take_of_length_le (by
  unfold okBef at h
  rw [Bool.and_eq_true, decide_eq_true_iff] at h
  omega)
/-- What a call of Least hands back: an order (or none), a number, an error. -/
def LRes (g : List Nat) (M F : Int) (B : Nat) (w : World) (e : Ending) (w' : World) : Prop :=
  ∃ Z zl zc, e = .returned (.tuple #[.slice Z zl zc, .int .i64 M, .int .i64 F]) ∧ g.length = zl ∧ IntsA w' w'.heap.size Z (up g) ∧ Below w.heap.size w w'
theorem lres_least {A : Option Addr} {n c : Nat} {L : List J4} {PA : Option Addr} {m pc : Nat} {P : List (Int × Int)} (hn : L.length = n) (hlen : n ≤ 9223372036854775807) (hm : P.length = m) (hmm : m ≤ 9223372036854775807) : ∃ (g : List Nat) (M F : Int),
    (jobsB L = false ∧ F = 2 ∧ g = [] ∨ jobsB L = true ∧ okBef P n = false ∧ F = 2 ∧ g = [] ∨ jobsB L = true ∧ okBef P n = true ∧ worstF L (befB P n) n 0 = none ∧ F = 6 ∧ g = [] ∨ jobsB L = true ∧ okBef P n = true ∧ worstF L (befB P n) n 0 = some M ∧ F = 0 ∧ g = gr L (befB P n) n 0 0 M) ∧
    ∀ (w : World) (X : Option Addr) (c : Nat) (Y : Option Addr) (d : Nat), JobsA w w.heap.size X L → PrsA w w.heap.size Y P → Calls Try.prog 40 #[.slice X n c, .slice Y m d] w (LRes g M F 0 w) := by
  cases hv : jobsB L with
  | false => exact ⟨[], 0, 2, .inl ⟨rfl, rfl, rfl⟩, fun w X c Y d hX hY => (least_arg X n c L Y m d P w hn hlen hm hmm hX hY (.inl hv)).mono fun e w' h => ⟨none, 0, 0, h.1, rfl, IntsA.nil_, h.2⟩⟩
  | true =>
    cases ho : okBef P n with
    | false => exact ⟨[], 0, 2, .inr (.inl ⟨rfl, rfl, rfl, rfl⟩), fun w X c Y d hX hY => (least_arg X n c L Y m d P w hn hlen hm hmm hX hY (.inr ⟨hv, ho⟩)).mono fun e w' h => ⟨none, 0, 0, h.1, rfl, IntsA.nil_, h.2⟩⟩
    | true =>
      cases hw : worstF L (befB P n) n 0 with
      | none => exact ⟨[], 0, 6, .inr (.inr (.inl ⟨rfl, rfl, rfl, rfl, rfl⟩)), fun w X c Y d hX hY => (least_yes X n c L Y m d P w hn hlen hm hmm hX hY hv ho).mono fun e w' ⟨h, hb⟩ => by
          rcases h with ⟨_, h⟩ | ⟨r, _, _, h, _⟩
          · exact ⟨none, 0, 0, h, rfl, IntsA.nil_, hb⟩
          · rw [hw] at h; cases h⟩
      | some r =>
        have hL := jobsB_iff.1 hv
        have hgl := (gr_ord hL (B := befB P n) (r := r) (by rw [hn]; exact hw)).2.1
        rw [hn] at hgl
        exact ⟨gr L (befB P n) n 0 0 r, r, 0, .inr (.inr (.inr ⟨rfl, rfl, rfl, rfl, rfl⟩)), fun w X c Y d hX hY => (least_yes X n c L Y m d P w hn hlen hm hmm hX hY hv ho).mono fun e w' ⟨h, hb⟩ => by
          rcases h with ⟨h, _⟩ | ⟨r', Z, zc, h1, h2, h3, h4⟩
          · rw [hw] at h; cases h
          · rw [hw] at h1; injection h1 with h1; subst h1; exact ⟨Z, n, zc, h2, hgl, h4, hb⟩⟩
set_option maxRecDepth 100000 in
set_option maxHeartbeats 6400000 in
theorem datesOrders_any (A : Option Addr) (n c : Nat) (L : List J4) (PA : Option Addr) (m pc : Nat) (P : List (Int × Int)) (X : Option Addr) (lm lc : Nat) (l : List Int) (w : World) (hn : L.length = n) (hlen : n ≤ 9223372036854775807) (hA : JobsA w w.heap.size A L)
    (hm : P.length = m) (hmc : m ≤ pc) (hmm : m ≤ 9223372036854775807) (hP : PrsA w w.heap.size PA P) (hl : l.length = lm) (hlc : lm ≤ lc) (hll : lm ≤ 9223372036854775807) (hX : IntsA w w.heap.size X l) :
    Calls Try.prog 12 #[.slice A n c, .slice PA m pc, .slice X lm lc] w fun e w' => e = .returned (.bool true) ∧ Below w.heap.size w w' := by
  have hmf : ∀ (fn : Fn) (first cap : Array Value) (w : World), (Instr.makeFunc fn first cap).run Try.prog w = .ok (.func fn first cap) w := fun _ _ _ _ => rfl
  obtain ⟨w0, hw0⟩ : ∃ w0, w0 = (w.alloc (.cells #[.slice A n c] 22)).alloc (.cells #[.slice PA m pc] 72) := ⟨_, rfl⟩
  have hbx : w0.heap[w.heap.size]? = some (.cells #[.slice A n c] 22 (0, 0)) := by rw [hw0]; exact (Below.heap_alloc _ _ _ (by simp)).trans (alloc_new _ _ _ rfl)
  have hby : w0.heap[w.heap.size + 1]? = some (.cells #[.slice PA m pc] 72 (0, 0)) := by rw [hw0]; exact alloc_new _ _ _ (by simp)
  have HB01 : Hid (Below w.heap.size w w0) := by subst hw0; exact ((Below.refl _ _).alloc (Nat.le_refl _) _).alloc (by simp) _
  have HQ : Hid (∀ w', Below w0.heap.size w0 w' → w'.cell? ⟨w.heap.size, 0, none⟩ = some (.slice A n c)) := fun w' hb => blk_cell ((hb.block _ (lt_of_block hbx)).trans hbx) 0
  have HR : Hid (∀ w', Below w0.heap.size w0 w' → w'.cell? ⟨w.heap.size + 1, 0, none⟩ = some (.slice PA m pc)) := fun w' hb => blk_cell ((hb.block _ (lt_of_block hby)).trans hby) 0
  have HW0L : Hid (w.heap.size < w0.heap.size) := lt_of_block hbx
  have HB0 : Hid (Below w0.heap.size w0 w0) := hide (Below.refl _ _)
  have HJ := hide (fun w' (hb : Below w0.heap.size w0 w') => (hA.next HB01.out).next hb)
  have HPP := hide (fun w' (hb : Below w0.heap.size w0 w') => (hP.next HB01.out).next hb)
  have HIL := hide (fun w' (hb : Below w0.heap.size w0 w') => (hX.next HB01.out).next hb)
  have qq0 := HQ.out _ HB0.out
  have qr0 := HR.out _ HB0.out
  have HAW := hide (fun w' => awake_any w')
  have HRV := hide (fun w' (hb : Below w0.heap.size w0 w') => drefvalid_any A n c L w' hn hlen (HJ.out w' hb))
  obtain ⟨LL, hLL⟩ : ∃ LL, LL = L.take 10 := ⟨_, rfl⟩
  obtain ⟨kk, hkk⟩ : ∃ kk, LL.length = kk := ⟨_, rfl⟩
  have hk10 : kk ≤ 10 := by rw [← hkk, hLL, List.length_take]; omega
  have hJL : jobsB LL = jobsB L := by rw [hLL]; exact jobsB_take L
  have HOF : Hid (∀ w', Below w0.heap.size w0 w' → Calls Try.prog 18 #[.slice A n c] w' fun e w'' => ∃ X c', e = .returned (.slice X kk c') ∧ JobsA w'' w''.heap.size X LL ∧ Below w'.heap.size w' w'') := fun w' hb =>
    (of_any A n c L w' hn hlen (HJ.out w' hb)).mono fun e w'' ⟨X, k, c', h1, h2, h3, h4, h5⟩ => by
      rw [← hLL] at h2 h4
      rw [hkk] at h2; subst h2
      exact ⟨X, c', h1, jobs_of_own h4, h5⟩
  obtain ⟨q18, hq18⟩ : ∃ q, (P.take 18).length = q := ⟨_, rfl⟩
  have hq18b : q18 ≤ 18 := by rw [← hq18, List.length_take]; omega
  have HPR := hide (fun w' (hb : Below w0.heap.size w0 w') => pairs_any PA m pc P w' hm hmc hmm (HPP.out w' hb))
  rw [hq18] at HPR
  obtain ⟨g1, M1, F1, hc1, hl1⟩ := lres_least (A := none) (c := 0) (PA := none) (pc := 0) (m := 0) (L := LL) (P := []) hkk (by omega) rfl (by omega)
  obtain ⟨g2, M2, F2, hc2, hl2⟩ := lres_least (A := none) (c := 0) (PA := none) (pc := 0) (L := LL) (P := P.take 18) hkk (by omega) hq18 (by omega)
  have HL1 := hide (fun w X c (h : JobsA w w.heap.size X LL) => hl1 w X c none 0 h PrsA.nil_)
  have HL2 := hide hl2
  unfold LRes at HL1 HL2
  rw [hJL, okBef_take] at hc2
  rw [hJL] at hc1
  have HW0 := hide hw0
  clear hl1 hl2 hw0 hbx hby
  cases hv : jobsB L
  · rw [hv] at hc1 hc2
    have hF1 : F1 = 2 := by rcases hc1 with h | h | h | h; exact h.2.1; cases h.1; cases h.1; cases h.1
    have hF2 : F2 = 2 := by rcases hc2 with h | h | h | h; exact h.2.1; cases h.1; cases h.1; cases h.1
    subst hF1; subst hF2
    clear hc1 hc2 hv hn hA hm hP hX hl hkk hq18 hLL hJL
    go_enter Try.func12, Try.ntmps12
    go_upto_region 1 with (fail)
    rw [← HW0.out]
    go_wp2_with (first
      | (go_at_call 18; (with_reducible refine (HOF.out _ HB0.out).mono ?_); rintro e w1 ⟨X1, c1, rfl, hx1, hb1⟩; have HB1 := hide (HB0.out.trans (hb1.mono HB0.out.size)); have qq1 := HQ.out _ HB1.out; have qr1 := HR.out _ HB1.out; have HX1 := hide hx1; clear hx1; clear hb1)
      | (go_at_call 40; (with_reducible refine (HL1.out _ X1 c1 HX1.out).mono ?_); rintro e w2 ⟨Z2, z2, e2, rfl, hz2, hI2, hb2⟩; have HB2 := hide (HB1.out.trans (hb2.mono HB1.out.size)); have qq2 := HQ.out _ HB2.out; have qr2 := HR.out _ HB2.out; have HI2 := hide hI2; have HZ2 := hide hz2; clear hI2 hz2; clear hb2))
    have HBR := hide (Below.refl w2.heap.size w2)
    have HSS := hide (fun w' (hb : Below w2.heap.size w2 w') => (⟨HQ.out _ (HB2.out.trans (hb.mono HB2.out.size)), HR.out _ (HB2.out.trans (hb.mono HB2.out.size)), hb⟩ : w'.cell? ⟨w.heap.size, 0, none⟩ = some (.slice A n c) ∧ w'.cell? ⟨w.heap.size + 1, 0, none⟩ = some (.slice PA m pc) ∧ Below w2.heap.size w2 w'))
    go_cut [10, 11, 12] from 156 (fun v10 v11 v12 wx => ∃ Z zl zc, v10 = .slice Z zl zc ∧ v11 = .int .i64 M2 ∧ v12 = .int .i64 2 ∧ Hid (g2.length = zl) ∧ Hid (IntsA wx wx.heap.size Z (up g2)) ∧ Below w2.heap.size w2 wx)
    case first =>
      refine wp_region_noPanic ?_
      refine wp_region_held_drew (S := (fun w' => w'.cell? ⟨w.heap.size, 0, none⟩ = some (.slice A n c) ∧ w'.cell? ⟨w.heap.size + 1, 0, none⟩ = some (.slice PA m pc) ∧ Below w2.heap.size w2 w')) (by kernel_rfl) (HSS.out _ HBR.out.drew) (fun hHeld => ?_)
      show wpAnyH _ _ _ _ _ _ (#[false, false, false, false, false, false, false, false, false, false, false, false] : Array Bool) _ _
      refine wpAnyH_take (i := 0) (v := .slice A n c) rfl (by kernel_rfl) (by kernel_rfl) (by kernel_rfl) (fun _ _ _ h => h) (Or.inl ⟨by rfl, ?_⟩) hHeld ?_
      · (intro w' hSw; obtain ⟨y1, y2, y3⟩ := hSw; go_simp)
      try simp only [List.getElem_toArray, List.getElem_cons_succ, List.getElem_cons_zero, put_lit, List.set_cons_zero, List.set_cons_succ]
      refine wpAnyH_take (i := 2) (v := .slice PA m pc) rfl (by kernel_rfl) (by kernel_rfl) (by kernel_rfl) (fun _ _ _ h => h) (Or.inl ⟨by rfl, ?_⟩) hHeld ?_
      · (intro w' hSw; obtain ⟨y1, y2, y3⟩ := hSw; go_simp)
      try simp only [List.getElem_toArray, List.getElem_cons_succ, List.getElem_cons_zero, put_lit, List.set_cons_zero, List.set_cons_succ]
      refine wpAnyH_ready (rs := [1]) (by kernel_rfl) (by simp) ?_
      refine AllReadyH.cons rfl (fun K hK => ?_) AllReadyH.nil
      have hBd := hHeld.2.2
      clear hHeld
      go_simp
      refine (HOF.out _ (HB2.out.trans (hBd.mono HB2.out.size))).mono ?_
      rintro e w3 ⟨X3, c3, rfl, hx3, hb3⟩
      have HX3 := hide hx3
      have HB3 := hide (hBd.trans (hb3.mono hBd.size))
      clear hx3 hb3 hBd
      go_wp2_with fail
      refine hK.out _ _ (HSS.out _ HB3.out) (fun hHeld => ?_)
      clear hK K
      try simp only [List.getElem_toArray, List.getElem_cons_succ, List.getElem_cons_zero, put_lit, List.set_cons_zero, List.set_cons_succ]
      refine wpAnyH_ready (rs := [3]) (by kernel_rfl) (by simp) ?_
      refine AllReadyH.cons rfl (fun K hK => ?_) AllReadyH.nil
      clear hHeld
      go_simp
      refine (HPR.out _ (HB2.out.trans (HB3.out.mono HB2.out.size))).mono ?_
      rintro e w4 ⟨Y4, d4, rfl, hy4, hb4⟩
      have HY4 := hide hy4
      have HX3 := hide (HX3.out.next hb4)
      have HB4 := hide (HB3.out.trans (hb4.mono HB3.out.size))
      clear hy4 hb4
      go_wp2_with fail
      refine hK.out _ _ (HSS.out _ HB4.out) (fun hHeld => ?_)
      clear hK K
      try simp only [List.getElem_toArray, List.getElem_cons_succ, List.getElem_cons_zero, put_lit, List.set_cons_zero, List.set_cons_succ]
      refine wpAnyH_ready (rs := [4]) (by kernel_rfl) (by simp) ?_
      refine AllReadyH.cons rfl (fun K hK => ?_) AllReadyH.nil
      clear hHeld
      go_simp
      refine (HL2.out _ X3 c3 Y4 d4 HX3.out HY4.out).mono ?_
      rintro e w5 ⟨Z5, z5, e5, rfl, hz5, hI5, hb5⟩
      have HI5 := hide hI5
      have HZ5 := hide hz5
      have HB5 := hide (HB4.out.trans (hb5.mono HB4.out.size))
      clear hI5 hz5 hb5
      go_wp2_with fail
      refine hK.out _ _ (HSS.out _ HB5.out) (fun hHeld => ?_)
      clear hK K
      try simp only [List.getElem_toArray, List.getElem_cons_succ, List.getElem_cons_zero, put_lit, List.set_cons_zero, List.set_cons_succ]
      refine wpAnyH_take (i := 5) (v := .tuple #[.slice Z5 z5 e5, .int .i64 M2, .int .i64 2]) rfl (by kernel_rfl) (by kernel_rfl) (by kernel_rfl) (fun _ _ _ h => h) (Or.inl ⟨by rfl, ?_⟩) hHeld ?_
      · (intro w' hSw; obtain ⟨y1, y2, y3⟩ := hSw; go_simp)
      try simp only [List.getElem_toArray, List.getElem_cons_succ, List.getElem_cons_zero, put_lit, List.set_cons_zero, List.set_cons_succ]
      refine wpAnyH_take (i := 6) (v := .slice Z5 z5 e5) rfl (by kernel_rfl) (by kernel_rfl) (by kernel_rfl) (fun _ _ _ h => h) (Or.inl ⟨by rfl, ?_⟩) hHeld ?_
      · (intro w' hSw; obtain ⟨y1, y2, y3⟩ := hSw; go_simp)
      try simp only [List.getElem_toArray, List.getElem_cons_succ, List.getElem_cons_zero, put_lit, List.set_cons_zero, List.set_cons_succ]
      refine wpAnyH_take (i := 7) (v := .int .i64 M2) rfl (by kernel_rfl) (by kernel_rfl) (by kernel_rfl) (fun _ _ _ h => h) (Or.inl ⟨by rfl, ?_⟩) hHeld ?_
      · (intro w' hSw; obtain ⟨y1, y2, y3⟩ := hSw; go_simp)
      try simp only [List.getElem_toArray, List.getElem_cons_succ, List.getElem_cons_zero, put_lit, List.set_cons_zero, List.set_cons_succ]
      refine wpAnyH_take (i := 8) (v := .int .i64 2) rfl (by kernel_rfl) (by kernel_rfl) (by kernel_rfl) (fun _ _ _ h => h) (Or.inl ⟨by rfl, ?_⟩) hHeld ?_
      · (intro w' hSw; obtain ⟨y1, y2, y3⟩ := hSw; go_simp)
      try simp only [List.getElem_toArray, List.getElem_cons_succ, List.getElem_cons_zero, put_lit, List.set_cons_zero, List.set_cons_succ]
      refine wpAnyH_take (i := 9) (v := .slice Z5 z5 e5) rfl (by kernel_rfl) (by kernel_rfl) (by kernel_rfl) (fun _ _ _ h => h) (Or.inl ⟨by rfl, ?_⟩) hHeld ?_
      · (intro w' hSw; obtain ⟨y1, y2, y3⟩ := hSw; go_simp)
      try simp only [List.getElem_toArray, List.getElem_cons_succ, List.getElem_cons_zero, put_lit, List.set_cons_zero, List.set_cons_succ]
      refine wpAnyH_take (i := 10) (v := .int .i64 M2) rfl (by kernel_rfl) (by kernel_rfl) (by kernel_rfl) (fun _ _ _ h => h) (Or.inl ⟨by rfl, ?_⟩) hHeld ?_
      · (intro w' hSw; obtain ⟨y1, y2, y3⟩ := hSw; go_simp)
      try simp only [List.getElem_toArray, List.getElem_cons_succ, List.getElem_cons_zero, put_lit, List.set_cons_zero, List.set_cons_succ]
      refine wpAnyH_take (i := 11) (v := .int .i64 2) rfl (by kernel_rfl) (by kernel_rfl) (by kernel_rfl) (fun _ _ _ h => h) (Or.inl ⟨by rfl, ?_⟩) hHeld ?_
      · (intro w' hSw; obtain ⟨y1, y2, y3⟩ := hSw; go_simp)
      try simp only [List.getElem_toArray, List.getElem_cons_succ, List.getElem_cons_zero, put_lit, List.set_cons_zero, List.set_cons_succ]
      refine wpAnyH_done (by kernel_rfl) ?_ _
      refine NoPanic.normal ?_
      go_wp2_with fail
      go_meet
      exact ⟨_, _, _, rfl, rfl, rfl, HZ5, HI5, HB5.out⟩
    case rest =>
      obtain ⟨Z3, z3, e3, rfl, rfl, rfl, HZ3, HI3, hb3⟩ := hcut
      have HB3 := hide (HB2.out.trans (hb3.mono HB2.out.size))
      have qq3 := HQ.out _ HB3.out
      clear hb3
      go_wp2_with (first
        | (go_at_call 20; (with_reducible refine (HAW.out _).mono ?_); rintro e w4 ⟨rfl, hb4⟩; have HB4 := hide (HB3.out.trans (hb4.mono HB3.out.size)); have qq4 := HQ.out _ HB4.out; have qr4 := HR.out _ HB4.out; clear hb4))
      go_ret
      exact ⟨rfl, HB01.out.trans (HB4.out.mono HB01.out.size)⟩
  · have hL := jobsB_iff.1 hv
    have hLL2 : L = LL := (hLL.trans hL.take).symm
    clear hLL
    subst hLL2
    have hkn2 : n = kk := hn.symm.trans hkk
    subst hkn2
    have h8 : n ≤ 8 := by rw [← hn]; exact hL.le
    have h1n : 1 ≤ n := by rw [← hn]; exact hL.pos
    rw [hv] at hc1 hc2
    -- without befores
    have hob : okBef [] n = true := rfl
    have hwn : worstF L (befB [] n) n 0 = worstF L B0 n 0 := by rw [← hn]; exact worstF_congr (fun i _ => befB_nil _ i) _ _
    obtain ⟨r0, hr0⟩ := worst0_some hL
    rw [hn] at hr0
    rw [hob, hwn, hr0] at hc1
    have hc1' : r0 = M1 ∧ F1 = 0 ∧ g1 = gr L (befB [] n) n 0 0 M1 := by
      rcases hc1 with h | h | h | h
      · cases h.1
      · cases h.2.1
      · cases h.2.2.1
      · exact ⟨by injection h.2.2.1, h.2.2.2⟩
    obtain ⟨rfl, rfl, hg1⟩ := hc1'
    have hga := gr_ord hL (B := befB [] n) (r := r0) (by rw [hn, hwn]; exact hr0)
    rw [hn, ← hg1] at hga
    have hra := late_eq hL (b := g1) (by rw [hn]; exact hga.2.2.1)
    rw [hn, hga.2.2.2] at hra
    have HQL := hide (fun w' (hb : Below w0.heap.size w0 w') => HQ.out w' hb)
    have HWO := hide (fun w' X q xc o (hb : Below w0.heap.size w0 w') (hq : o.length = q) (hq9 : q ≤ 9223372036854775807) (hI : IntsA w' w'.heap.size X o) => oworst_any A n c w.heap.size L X q xc o w' hn hlen hv hq hq9 (HJ.out w' hb) hI (HQL.out w' hb))
    have HKO := hide (fun w' X q xc o (hb : Below w0.heap.size w0 w') (hq : o.length = q) (hq9 : q ≤ 9223372036854775807) (hI : IntsA w' w'.heap.size X o) => okeeps_any PA m pc (w.heap.size + 1) P X q xc o w' hm hmm hq hq9 (HPP.out w' hb) hI (HR.out w' hb))
    have HWA := hide (fun w' X xc (hb : Below w0.heap.size w0 w') (hI : IntsA w' w'.heap.size X (up g1)) => HWO.out w' X n xc (up g1) hb (by rw [up_length, hga.2.1]) hlen hI)
    rw [hga.2.2.1, if_pos rfl, hra] at HWA
    have HWD : Hid (∀ s : Nat → Nat, Sorted0 (due L) (fun k => (List.range n).getD k 0) s n n → ∀ w' X xc, Below w0.heap.size w0 w' → IntsA w' w'.heap.size X (up ((List.range n).map s)) → Calls Try.prog 44 (#[.slice X n xc] ++ #[.pointer (some ⟨w.heap.size, 0, none⟩)]) w' fun e w'' => e = .returned (.tuple #[.int .i64 r0, .bool true]) ∧ Below w'.heap.size w' w'') := fun s hs w' X xc hb hI => by
      have hd := due_least hL (s := s) (r0 := r0) (by rw [hn]; exact hs) (by rw [hn]; exact hr0)
      have hle := late_eq hL hd.1
      rw [hn] at hd hle
      have h9 := HWO.out w' X n xc (up ((List.range n).map s)) hb (by simp) hlen hI
      rw [hd.1, if_pos rfl, hle, hd.2] at h9
      exact h9
    have hAb : ∀ b o, A = some ⟨b, o, none⟩ → b < w.heap.size := fun b o e => by
      obtain ⟨b1, o1, e1, h2, _⟩ := hA 0 (by omega)
      rw [e] at e1
      injection e1 with e1; injection e1 with e2
      omega
    have HAB := hide hAb
    have HRL : Hid ((List.range n).length = n) := hide (by simp)
    have HSR := hide (fun w' base Y c1 (hb : Below w0.heap.size w0 w') (hbase : w0.heap.size ≤ base) hown => srt_DO A n c w.heap.size base L Y n c1 (List.range n) w' hn hL HRL.out (fun k hk => by simp [List.getD_eq_getElem?_getD, hk]) (fun a b hab hb => by simp [List.getD_eq_getElem?_getD, hb, Nat.lt_trans hab hb]; exact hab) h8 (HJ.out w' hb) (fun b o e => by have := HAB.out b o e; have := HW0L.out; omega) (by have := HW0L.out; omega) (HQ.out w' hb) hown)
    have HGN : Hid (g1.length = n) := hide hga.2.1
    rw [hv] at HRV
    -- with befores
    rcases hc2 with h | ⟨_, ho, rfl, rfl⟩ | ⟨_, ho, hw, rfl, rfl⟩ | ⟨_, ho, hw, rfl, hg2⟩
    · cases h.1
    · clear hv hn hA hm hP hX hl hL hAb hc1 hga hra hr0 hwn hob hg1 hkk hq18 hJL HWO HKO ho
      go_enter Try.func12, Try.ntmps12
      go_upto_region 1 with (fail)
      rw [← HW0.out]
      go_wp2_with (first
        | (go_at_call 18; (with_reducible refine (HOF.out _ HB0.out).mono ?_); rintro e w1 ⟨X1, c1, rfl, hx1, hb1⟩; have HB1 := hide (HB0.out.trans (hb1.mono HB0.out.size)); have qq1 := HQ.out _ HB1.out; have qr1 := HR.out _ HB1.out; have HX1 := hide hx1; clear hx1; clear hb1)
        | (go_at_call 40; (with_reducible refine (HL1.out _ X1 c1 HX1.out).mono ?_); rintro e w2 ⟨Z2, z2, e2, rfl, hz2, hI2, hb2⟩; have HB2 := hide (HB1.out.trans (hb2.mono HB1.out.size)); have qq2 := HQ.out _ HB2.out; have qr2 := HR.out _ HB2.out; have HI2 := hide hI2; have HZ2 := hide hz2; clear hI2 hz2; clear hb2))
      have HBR := hide (Below.refl w2.heap.size w2)
      have HSS := hide (fun w' (hb : Below w2.heap.size w2 w') => (⟨HQ.out _ (HB2.out.trans (hb.mono HB2.out.size)), HR.out _ (HB2.out.trans (hb.mono HB2.out.size)), hb⟩ : w'.cell? ⟨w.heap.size, 0, none⟩ = some (.slice A n c) ∧ w'.cell? ⟨w.heap.size + 1, 0, none⟩ = some (.slice PA m pc) ∧ Below w2.heap.size w2 w'))
      go_cut [10, 11, 12] from 156 (fun v10 v11 v12 wx => ∃ Z zl zc, v10 = .slice Z zl zc ∧ v11 = .int .i64 M2 ∧ v12 = .int .i64 2 ∧ Hid (([] : List Nat).length = zl) ∧ Hid (IntsA wx wx.heap.size Z (up ([] : List Nat))) ∧ Below w2.heap.size w2 wx)
      case first =>
        refine wp_region_noPanic ?_
        refine wp_region_held_drew (S := (fun w' => w'.cell? ⟨w.heap.size, 0, none⟩ = some (.slice A n c) ∧ w'.cell? ⟨w.heap.size + 1, 0, none⟩ = some (.slice PA m pc) ∧ Below w2.heap.size w2 w')) (by kernel_rfl) (HSS.out _ HBR.out.drew) (fun hHeld => ?_)
        show wpAnyH _ _ _ _ _ _ (#[false, false, false, false, false, false, false, false, false, false, false, false] : Array Bool) _ _
        refine wpAnyH_take (i := 0) (v := .slice A n c) rfl (by kernel_rfl) (by kernel_rfl) (by kernel_rfl) (fun _ _ _ h => h) (Or.inl ⟨by rfl, ?_⟩) hHeld ?_
        · (intro w' hSw; obtain ⟨y1, y2, y3⟩ := hSw; go_simp)
        try simp only [List.getElem_toArray, List.getElem_cons_succ, List.getElem_cons_zero, put_lit, List.set_cons_zero, List.set_cons_succ]
        refine wpAnyH_take (i := 2) (v := .slice PA m pc) rfl (by kernel_rfl) (by kernel_rfl) (by kernel_rfl) (fun _ _ _ h => h) (Or.inl ⟨by rfl, ?_⟩) hHeld ?_
        · (intro w' hSw; obtain ⟨y1, y2, y3⟩ := hSw; go_simp)
        try simp only [List.getElem_toArray, List.getElem_cons_succ, List.getElem_cons_zero, put_lit, List.set_cons_zero, List.set_cons_succ]
        refine wpAnyH_ready (rs := [1]) (by kernel_rfl) (by simp) ?_
        refine AllReadyH.cons rfl (fun K hK => ?_) AllReadyH.nil
        have hBd := hHeld.2.2
        clear hHeld
        go_simp
        refine (HOF.out _ (HB2.out.trans (hBd.mono HB2.out.size))).mono ?_
        rintro e w3 ⟨X3, c3, rfl, hx3, hb3⟩
        have HX3 := hide hx3
        have HB3 := hide (hBd.trans (hb3.mono hBd.size))
        clear hx3 hb3 hBd
        go_wp2_with fail
        refine hK.out _ _ (HSS.out _ HB3.out) (fun hHeld => ?_)
        clear hK K
        try simp only [List.getElem_toArray, List.getElem_cons_succ, List.getElem_cons_zero, put_lit, List.set_cons_zero, List.set_cons_succ]
        refine wpAnyH_ready (rs := [3]) (by kernel_rfl) (by simp) ?_
        refine AllReadyH.cons rfl (fun K hK => ?_) AllReadyH.nil
        clear hHeld
        go_simp
        refine (HPR.out _ (HB2.out.trans (HB3.out.mono HB2.out.size))).mono ?_
        rintro e w4 ⟨Y4, d4, rfl, hy4, hb4⟩
        have HY4 := hide hy4
        have HX3 := hide (HX3.out.next hb4)
        have HB4 := hide (HB3.out.trans (hb4.mono HB3.out.size))
        clear hy4 hb4
        go_wp2_with fail
        refine hK.out _ _ (HSS.out _ HB4.out) (fun hHeld => ?_)
        clear hK K
        try simp only [List.getElem_toArray, List.getElem_cons_succ, List.getElem_cons_zero, put_lit, List.set_cons_zero, List.set_cons_succ]
        refine wpAnyH_ready (rs := [4]) (by kernel_rfl) (by simp) ?_
        refine AllReadyH.cons rfl (fun K hK => ?_) AllReadyH.nil
        clear hHeld
        go_simp
        refine (HL2.out _ X3 c3 Y4 d4 HX3.out HY4.out).mono ?_
        rintro e w5 ⟨Z5, z5, e5, rfl, hz5, hI5, hb5⟩
        have HI5 := hide hI5
        have HZ5 := hide hz5
        have HB5 := hide (HB4.out.trans (hb5.mono HB4.out.size))
        clear hI5 hz5 hb5
        go_wp2_with fail
        refine hK.out _ _ (HSS.out _ HB5.out) (fun hHeld => ?_)
        clear hK K
        try simp only [List.getElem_toArray, List.getElem_cons_succ, List.getElem_cons_zero, put_lit, List.set_cons_zero, List.set_cons_succ]
        refine wpAnyH_take (i := 5) (v := .tuple #[.slice Z5 z5 e5, .int .i64 M2, .int .i64 2]) rfl (by kernel_rfl) (by kernel_rfl) (by kernel_rfl) (fun _ _ _ h => h) (Or.inl ⟨by rfl, ?_⟩) hHeld ?_
        · (intro w' hSw; obtain ⟨y1, y2, y3⟩ := hSw; go_simp)
        try simp only [List.getElem_toArray, List.getElem_cons_succ, List.getElem_cons_zero, put_lit, List.set_cons_zero, List.set_cons_succ]
        refine wpAnyH_take (i := 6) (v := .slice Z5 z5 e5) rfl (by kernel_rfl) (by kernel_rfl) (by kernel_rfl) (fun _ _ _ h => h) (Or.inl ⟨by rfl, ?_⟩) hHeld ?_
        · (intro w' hSw; obtain ⟨y1, y2, y3⟩ := hSw; go_simp)
        try simp only [List.getElem_toArray, List.getElem_cons_succ, List.getElem_cons_zero, put_lit, List.set_cons_zero, List.set_cons_succ]
        refine wpAnyH_take (i := 7) (v := .int .i64 M2) rfl (by kernel_rfl) (by kernel_rfl) (by kernel_rfl) (fun _ _ _ h => h) (Or.inl ⟨by rfl, ?_⟩) hHeld ?_
        · (intro w' hSw; obtain ⟨y1, y2, y3⟩ := hSw; go_simp)
        try simp only [List.getElem_toArray, List.getElem_cons_succ, List.getElem_cons_zero, put_lit, List.set_cons_zero, List.set_cons_succ]
        refine wpAnyH_take (i := 8) (v := .int .i64 2) rfl (by kernel_rfl) (by kernel_rfl) (by kernel_rfl) (fun _ _ _ h => h) (Or.inl ⟨by rfl, ?_⟩) hHeld ?_
        · (intro w' hSw; obtain ⟨y1, y2, y3⟩ := hSw; go_simp)
        try simp only [List.getElem_toArray, List.getElem_cons_succ, List.getElem_cons_zero, put_lit, List.set_cons_zero, List.set_cons_succ]
        refine wpAnyH_take (i := 9) (v := .slice Z5 z5 e5) rfl (by kernel_rfl) (by kernel_rfl) (by kernel_rfl) (fun _ _ _ h => h) (Or.inl ⟨by rfl, ?_⟩) hHeld ?_
        · (intro w' hSw; obtain ⟨y1, y2, y3⟩ := hSw; go_simp)
        try simp only [List.getElem_toArray, List.getElem_cons_succ, List.getElem_cons_zero, put_lit, List.set_cons_zero, List.set_cons_succ]
        refine wpAnyH_take (i := 10) (v := .int .i64 M2) rfl (by kernel_rfl) (by kernel_rfl) (by kernel_rfl) (fun _ _ _ h => h) (Or.inl ⟨by rfl, ?_⟩) hHeld ?_
        · (intro w' hSw; obtain ⟨y1, y2, y3⟩ := hSw; go_simp)
        try simp only [List.getElem_toArray, List.getElem_cons_succ, List.getElem_cons_zero, put_lit, List.set_cons_zero, List.set_cons_succ]
        refine wpAnyH_take (i := 11) (v := .int .i64 2) rfl (by kernel_rfl) (by kernel_rfl) (by kernel_rfl) (fun _ _ _ h => h) (Or.inl ⟨by rfl, ?_⟩) hHeld ?_
        · (intro w' hSw; obtain ⟨y1, y2, y3⟩ := hSw; go_simp)
        try simp only [List.getElem_toArray, List.getElem_cons_succ, List.getElem_cons_zero, put_lit, List.set_cons_zero, List.set_cons_succ]
        refine wpAnyH_done (by kernel_rfl) ?_ _
        refine NoPanic.normal ?_
        go_wp2_with fail
        go_meet
        exact ⟨_, _, _, rfl, rfl, rfl, HZ5, HI5, HB5.out⟩
      case rest =>
        obtain ⟨Z3, z3, e3, rfl, rfl, rfl, HZ3, HI3, hb3⟩ := hcut
        obtain rfl : n = z2 := HGN.out.symm.trans HZ2.out
        have HI2 := hide (HI2.out.next hb3)
        have HB3 := hide (HB2.out.trans (hb3.mono HB2.out.size))
        have qq3 := HQ.out _ HB3.out
        clear hb3
        go_wp2_with (first
          | (go_at_call 19; (with_reducible refine (HRV.out _ HB3.out).mono ?_); rintro e w4 ⟨rfl, hb4⟩; have HI2 := hide (HI2.out.next hb4); have HI3 := hide (HI3.out.next hb4); have HB4 := hide (HB3.out.trans (hb4.mono HB3.out.size)); have qq4 := HQ.out _ HB4.out; have qr4 := HR.out _ HB4.out; clear hb4))
        have HI24 := HI2
        have HI34 := HI3
        go_loopw [14, 58] (fun v14 v58 wr => ∃ (k c' : Nat) (XX : Option Addr), k ≤ n ∧ v58 = .int .i64 k ∧ v14 = .slice XX k c' ∧ k ≤ c' ∧ Hid (wr.ownsRow w4.heap.size 3 1 (.slice XX k c') k ((up (List.range k)).map (Value.int .i64))) ∧ Below w4.heap.size w4 wr) (fun _ v _ => n - (intOf v).toNat)
        case atStart => exact ⟨0, 0, none, Nat.zero_le _, rfl, rfl, Nat.le_refl _, hide (World.ownsRow_nil _ _ _ _), Below.refl _ _⟩
        case round =>
          obtain ⟨k, c', XX, hk, rfl, rfl, hkc, HO, hb⟩ := hrel
          have HB := hide hb
          obtain ⟨w5, rfl⟩ : ∃ w5 : World, w5 = wr := ⟨_, rfl⟩
          by_cases hlt : k < n
          · have hkn : (k : Int) < (n : Int) := by omega
            clear hb
            go_wp2_with (at_builtin; refine wpList_app1 (w0 := w5) _ _ 41 3 (.int .i64 0) 8 rfl rfl Try.underlying41 info_int rfl w4.heap.size (.slice XX k c') k _ (.int .i64 (k : Nat)) rfl rfl rfl ⟨_, rfl⟩ HO.out rfl (by omega) (by omega) (by have := HB.out.size; omega) ?_; intro g2 cg w6 hown1 hd1 hd2 hg1 hgl2 hgrow; have HOW1 := hide hown1; have HG := hide hgrow; clear hown1 hgrow)
            go_roundw
            case rel =>
              refine ⟨k + 1, cg, some ⟨g2, 0, none⟩, by omega, by go_num, rfl, hd1, hide ?_, HB.out.grown HG.out HB.out.size (fun q hq => (own_lt HO.out q hq).1)⟩
              have e9 : (up (List.range (k + 1))).map (Value.int .i64) = (up (List.range k)).map (Value.int .i64) ++ [Value.int .i64 (k : Int)] := by simp [up, List.range_succ]
              rw [e9]; exact HOW1.out
            case measure => simp [intOf] <;> omega
          · obtain rfl : n = k := by omega
            have HB5 := hide (HB4.out.trans (hb.mono HB4.out.size))
            have HSC := hide (HSR.out w5 w4.heap.size XX c' HB5.out HB4.out.size HO.out)
            have HI2 := hide (HI2.out.next hb)
            have HI3 := hide (HI3.out.next hb)
            have HI2 := hide (HI2.out.more (Nat.le_refl _))
            have qq5 := HQ.out _ HB5.out
            have HNO := hide (fun g (hg : (Value.slice XX n c').ownBlock = some g) => (own_lt HO.out g hg).1)
            have HI2w := hide (fun w' (hb' : Below w4.heap.size w4 w') => HI24.out.next hb')
            have HI3w := hide (fun w' (hb' : Below w4.heap.size w4 w') => HI34.out.next hb')
            clear hb
            go_wp2_with (first
              | (go_at_call 45; refine (HSC.out).mono ?_; rintro e w6 ⟨s, h1, h2, h3, rfl⟩; have H1 := hide h1; have HID := hide (ints_of_own h2); have HB46 := hide (HB.out.grown h3 HB.out.size (fun q hq => HNO.out q hq)); have HB6 := hide (HB4.out.trans (HB46.out.mono HB4.out.size)); have HI2 := hide (HI2w.out _ HB46.out); have HI3 := hide (HI3w.out _ HB46.out); have qq6 := HQ.out _ HB6.out; clear h1 h2 h3)
              | ((with_reducible show wpList _ _ _ (⟨some 72, _, _, _, _, _⟩ :: _) _ _); refine wpList_callv1 44 #[.pointer (some ⟨w.heap.size, 0, none⟩)] _ _ _ _ rfl rfl rfl rfl goes_oworst ((HWD.out s H1.out _ XX c' HB6.out HID.out).mono ?_); rintro e w7 ⟨rfl, hb7⟩; have HI2 := hide (HI2.out.next hb7); have HI3 := hide (HI3.out.next hb7); have HB7 := hide (HB6.out.trans (hb7.mono HB6.out.size)); have qq7 := HQ.out _ HB7.out; have qr7 := HR.out _ HB7.out; clear hb7; refine ⟨_, rfl, ?_⟩)
              | ((with_reducible show wpList _ _ _ (⟨some 78, _, _, _, _, _⟩ :: _) _ _); refine wpList_callv1 44 #[.pointer (some ⟨w.heap.size, 0, none⟩)] _ _ _ _ rfl rfl rfl rfl goes_oworst ((HWA.out _ Z2 e2 HB7.out HI2.out).mono ?_); rintro e w8 ⟨rfl, hb8⟩; have HI3 := hide (HI3.out.next hb8); have HB8 := hide (HB7.out.trans (hb8.mono HB7.out.size)); have qq8 := HQ.out _ HB8.out; have qr8 := HR.out _ HB8.out; clear hb8; refine ⟨_, rfl, ?_⟩)
              | (go_at_call 20; (with_reducible refine (HAW.out _).mono ?_); rintro e w9 ⟨rfl, hb9⟩; have HB9 := hide (HB8.out.trans (hb9.mono HB8.out.size)); have qq9 := HQ.out _ HB9.out; have qr9 := HR.out _ HB9.out; clear hb9))
            go_ret
            exact ⟨by simp, HB01.out.trans (HB9.out.mono HB01.out.size)⟩
    · clear hv hn hA hm hP hX hl hL hAb hc1 hga hra hr0 hwn hob hg1 hkk hq18 hJL HWO HKO ho hw
      go_enter Try.func12, Try.ntmps12
      go_upto_region 1 with (fail)
      rw [← HW0.out]
      go_wp2_with (first
        | (go_at_call 18; (with_reducible refine (HOF.out _ HB0.out).mono ?_); rintro e w1 ⟨X1, c1, rfl, hx1, hb1⟩; have HB1 := hide (HB0.out.trans (hb1.mono HB0.out.size)); have qq1 := HQ.out _ HB1.out; have qr1 := HR.out _ HB1.out; have HX1 := hide hx1; clear hx1; clear hb1)
        | (go_at_call 40; (with_reducible refine (HL1.out _ X1 c1 HX1.out).mono ?_); rintro e w2 ⟨Z2, z2, e2, rfl, hz2, hI2, hb2⟩; have HB2 := hide (HB1.out.trans (hb2.mono HB1.out.size)); have qq2 := HQ.out _ HB2.out; have qr2 := HR.out _ HB2.out; have HI2 := hide hI2; have HZ2 := hide hz2; clear hI2 hz2; clear hb2))
      have HBR := hide (Below.refl w2.heap.size w2)
      have HSS := hide (fun w' (hb : Below w2.heap.size w2 w') => (⟨HQ.out _ (HB2.out.trans (hb.mono HB2.out.size)), HR.out _ (HB2.out.trans (hb.mono HB2.out.size)), hb⟩ : w'.cell? ⟨w.heap.size, 0, none⟩ = some (.slice A n c) ∧ w'.cell? ⟨w.heap.size + 1, 0, none⟩ = some (.slice PA m pc) ∧ Below w2.heap.size w2 w'))
      go_cut [10, 11, 12] from 156 (fun v10 v11 v12 wx => ∃ Z zl zc, v10 = .slice Z zl zc ∧ v11 = .int .i64 M2 ∧ v12 = .int .i64 6 ∧ Hid (([] : List Nat).length = zl) ∧ Hid (IntsA wx wx.heap.size Z (up ([] : List Nat))) ∧ Below w2.heap.size w2 wx)
      case first =>
        refine wp_region_noPanic ?_
        refine wp_region_held_drew (S := (fun w' => w'.cell? ⟨w.heap.size, 0, none⟩ = some (.slice A n c) ∧ w'.cell? ⟨w.heap.size + 1, 0, none⟩ = some (.slice PA m pc) ∧ Below w2.heap.size w2 w')) (by kernel_rfl) (HSS.out _ HBR.out.drew) (fun hHeld => ?_)
        show wpAnyH _ _ _ _ _ _ (#[false, false, false, false, false, false, false, false, false, false, false, false] : Array Bool) _ _
        refine wpAnyH_take (i := 0) (v := .slice A n c) rfl (by kernel_rfl) (by kernel_rfl) (by kernel_rfl) (fun _ _ _ h => h) (Or.inl ⟨by rfl, ?_⟩) hHeld ?_
        · (intro w' hSw; obtain ⟨y1, y2, y3⟩ := hSw; go_simp)
        try simp only [List.getElem_toArray, List.getElem_cons_succ, List.getElem_cons_zero, put_lit, List.set_cons_zero, List.set_cons_succ]
        refine wpAnyH_take (i := 2) (v := .slice PA m pc) rfl (by kernel_rfl) (by kernel_rfl) (by kernel_rfl) (fun _ _ _ h => h) (Or.inl ⟨by rfl, ?_⟩) hHeld ?_
        · (intro w' hSw; obtain ⟨y1, y2, y3⟩ := hSw; go_simp)
        try simp only [List.getElem_toArray, List.getElem_cons_succ, List.getElem_cons_zero, put_lit, List.set_cons_zero, List.set_cons_succ]
        refine wpAnyH_ready (rs := [1]) (by kernel_rfl) (by simp) ?_
        refine AllReadyH.cons rfl (fun K hK => ?_) AllReadyH.nil
        have hBd := hHeld.2.2
        clear hHeld
        go_simp
        refine (HOF.out _ (HB2.out.trans (hBd.mono HB2.out.size))).mono ?_
        rintro e w3 ⟨X3, c3, rfl, hx3, hb3⟩
        have HX3 := hide hx3
        have HB3 := hide (hBd.trans (hb3.mono hBd.size))
        clear hx3 hb3 hBd
        go_wp2_with fail
        refine hK.out _ _ (HSS.out _ HB3.out) (fun hHeld => ?_)
        clear hK K
        try simp only [List.getElem_toArray, List.getElem_cons_succ, List.getElem_cons_zero, put_lit, List.set_cons_zero, List.set_cons_succ]
        refine wpAnyH_ready (rs := [3]) (by kernel_rfl) (by simp) ?_
        refine AllReadyH.cons rfl (fun K hK => ?_) AllReadyH.nil
        clear hHeld
        go_simp
        refine (HPR.out _ (HB2.out.trans (HB3.out.mono HB2.out.size))).mono ?_
        rintro e w4 ⟨Y4, d4, rfl, hy4, hb4⟩
        have HY4 := hide hy4
        have HX3 := hide (HX3.out.next hb4)
        have HB4 := hide (HB3.out.trans (hb4.mono HB3.out.size))
        clear hy4 hb4
        go_wp2_with fail
        refine hK.out _ _ (HSS.out _ HB4.out) (fun hHeld => ?_)
        clear hK K
        try simp only [List.getElem_toArray, List.getElem_cons_succ, List.getElem_cons_zero, put_lit, List.set_cons_zero, List.set_cons_succ]
        refine wpAnyH_ready (rs := [4]) (by kernel_rfl) (by simp) ?_
        refine AllReadyH.cons rfl (fun K hK => ?_) AllReadyH.nil
        clear hHeld
        go_simp
        refine (HL2.out _ X3 c3 Y4 d4 HX3.out HY4.out).mono ?_
        rintro e w5 ⟨Z5, z5, e5, rfl, hz5, hI5, hb5⟩
        have HI5 := hide hI5
        have HZ5 := hide hz5
        have HB5 := hide (HB4.out.trans (hb5.mono HB4.out.size))
        clear hI5 hz5 hb5
        go_wp2_with fail
        refine hK.out _ _ (HSS.out _ HB5.out) (fun hHeld => ?_)
        clear hK K
        try simp only [List.getElem_toArray, List.getElem_cons_succ, List.getElem_cons_zero, put_lit, List.set_cons_zero, List.set_cons_succ]
        refine wpAnyH_take (i := 5) (v := .tuple #[.slice Z5 z5 e5, .int .i64 M2, .int .i64 6]) rfl (by kernel_rfl) (by kernel_rfl) (by kernel_rfl) (fun _ _ _ h => h) (Or.inl ⟨by rfl, ?_⟩) hHeld ?_
        · (intro w' hSw; obtain ⟨y1, y2, y3⟩ := hSw; go_simp)
        try simp only [List.getElem_toArray, List.getElem_cons_succ, List.getElem_cons_zero, put_lit, List.set_cons_zero, List.set_cons_succ]
        refine wpAnyH_take (i := 6) (v := .slice Z5 z5 e5) rfl (by kernel_rfl) (by kernel_rfl) (by kernel_rfl) (fun _ _ _ h => h) (Or.inl ⟨by rfl, ?_⟩) hHeld ?_
        · (intro w' hSw; obtain ⟨y1, y2, y3⟩ := hSw; go_simp)
        try simp only [List.getElem_toArray, List.getElem_cons_succ, List.getElem_cons_zero, put_lit, List.set_cons_zero, List.set_cons_succ]
        refine wpAnyH_take (i := 7) (v := .int .i64 M2) rfl (by kernel_rfl) (by kernel_rfl) (by kernel_rfl) (fun _ _ _ h => h) (Or.inl ⟨by rfl, ?_⟩) hHeld ?_
        · (intro w' hSw; obtain ⟨y1, y2, y3⟩ := hSw; go_simp)
        try simp only [List.getElem_toArray, List.getElem_cons_succ, List.getElem_cons_zero, put_lit, List.set_cons_zero, List.set_cons_succ]
        refine wpAnyH_take (i := 8) (v := .int .i64 6) rfl (by kernel_rfl) (by kernel_rfl) (by kernel_rfl) (fun _ _ _ h => h) (Or.inl ⟨by rfl, ?_⟩) hHeld ?_
        · (intro w' hSw; obtain ⟨y1, y2, y3⟩ := hSw; go_simp)
        try simp only [List.getElem_toArray, List.getElem_cons_succ, List.getElem_cons_zero, put_lit, List.set_cons_zero, List.set_cons_succ]
        refine wpAnyH_take (i := 9) (v := .slice Z5 z5 e5) rfl (by kernel_rfl) (by kernel_rfl) (by kernel_rfl) (fun _ _ _ h => h) (Or.inl ⟨by rfl, ?_⟩) hHeld ?_
        · (intro w' hSw; obtain ⟨y1, y2, y3⟩ := hSw; go_simp)
        try simp only [List.getElem_toArray, List.getElem_cons_succ, List.getElem_cons_zero, put_lit, List.set_cons_zero, List.set_cons_succ]
        refine wpAnyH_take (i := 10) (v := .int .i64 M2) rfl (by kernel_rfl) (by kernel_rfl) (by kernel_rfl) (fun _ _ _ h => h) (Or.inl ⟨by rfl, ?_⟩) hHeld ?_
        · (intro w' hSw; obtain ⟨y1, y2, y3⟩ := hSw; go_simp)
        try simp only [List.getElem_toArray, List.getElem_cons_succ, List.getElem_cons_zero, put_lit, List.set_cons_zero, List.set_cons_succ]
        refine wpAnyH_take (i := 11) (v := .int .i64 6) rfl (by kernel_rfl) (by kernel_rfl) (by kernel_rfl) (fun _ _ _ h => h) (Or.inl ⟨by rfl, ?_⟩) hHeld ?_
        · (intro w' hSw; obtain ⟨y1, y2, y3⟩ := hSw; go_simp)
        try simp only [List.getElem_toArray, List.getElem_cons_succ, List.getElem_cons_zero, put_lit, List.set_cons_zero, List.set_cons_succ]
        refine wpAnyH_done (by kernel_rfl) ?_ _
        refine NoPanic.normal ?_
        go_wp2_with fail
        go_meet
        exact ⟨_, _, _, rfl, rfl, rfl, HZ5, HI5, HB5.out⟩
      case rest =>
        obtain ⟨Z3, z3, e3, rfl, rfl, rfl, HZ3, HI3, hb3⟩ := hcut
        obtain rfl : n = z2 := HGN.out.symm.trans HZ2.out
        have HI2 := hide (HI2.out.next hb3)
        have HB3 := hide (HB2.out.trans (hb3.mono HB2.out.size))
        have qq3 := HQ.out _ HB3.out
        clear hb3
        go_wp2_with (first
          | (go_at_call 19; (with_reducible refine (HRV.out _ HB3.out).mono ?_); rintro e w4 ⟨rfl, hb4⟩; have HI2 := hide (HI2.out.next hb4); have HI3 := hide (HI3.out.next hb4); have HB4 := hide (HB3.out.trans (hb4.mono HB3.out.size)); have qq4 := HQ.out _ HB4.out; have qr4 := HR.out _ HB4.out; clear hb4))
        have HI24 := HI2
        have HI34 := HI3
        go_loopw [14, 58] (fun v14 v58 wr => ∃ (k c' : Nat) (XX : Option Addr), k ≤ n ∧ v58 = .int .i64 k ∧ v14 = .slice XX k c' ∧ k ≤ c' ∧ Hid (wr.ownsRow w4.heap.size 3 1 (.slice XX k c') k ((up (List.range k)).map (Value.int .i64))) ∧ Below w4.heap.size w4 wr) (fun _ v _ => n - (intOf v).toNat)
        case atStart => exact ⟨0, 0, none, Nat.zero_le _, rfl, rfl, Nat.le_refl _, hide (World.ownsRow_nil _ _ _ _), Below.refl _ _⟩
        case round =>
          obtain ⟨k, c', XX, hk, rfl, rfl, hkc, HO, hb⟩ := hrel
          have HB := hide hb
          obtain ⟨w5, rfl⟩ : ∃ w5 : World, w5 = wr := ⟨_, rfl⟩
          by_cases hlt : k < n
          · have hkn : (k : Int) < (n : Int) := by omega
            clear hb
            go_wp2_with (at_builtin; refine wpList_app1 (w0 := w5) _ _ 41 3 (.int .i64 0) 8 rfl rfl Try.underlying41 info_int rfl w4.heap.size (.slice XX k c') k _ (.int .i64 (k : Nat)) rfl rfl rfl ⟨_, rfl⟩ HO.out rfl (by omega) (by omega) (by have := HB.out.size; omega) ?_; intro g2 cg w6 hown1 hd1 hd2 hg1 hgl2 hgrow; have HOW1 := hide hown1; have HG := hide hgrow; clear hown1 hgrow)
            go_roundw
            case rel =>
              refine ⟨k + 1, cg, some ⟨g2, 0, none⟩, by omega, by go_num, rfl, hd1, hide ?_, HB.out.grown HG.out HB.out.size (fun q hq => (own_lt HO.out q hq).1)⟩
              have e9 : (up (List.range (k + 1))).map (Value.int .i64) = (up (List.range k)).map (Value.int .i64) ++ [Value.int .i64 (k : Int)] := by simp [up, List.range_succ]
              rw [e9]; exact HOW1.out
            case measure => simp [intOf] <;> omega
          · obtain rfl : n = k := by omega
            have HB5 := hide (HB4.out.trans (hb.mono HB4.out.size))
            have HSC := hide (HSR.out w5 w4.heap.size XX c' HB5.out HB4.out.size HO.out)
            have HI2 := hide (HI2.out.next hb)
            have HI3 := hide (HI3.out.next hb)
            have HI2 := hide (HI2.out.more (Nat.le_refl _))
            have qq5 := HQ.out _ HB5.out
            have HNO := hide (fun g (hg : (Value.slice XX n c').ownBlock = some g) => (own_lt HO.out g hg).1)
            have HI2w := hide (fun w' (hb' : Below w4.heap.size w4 w') => HI24.out.next hb')
            have HI3w := hide (fun w' (hb' : Below w4.heap.size w4 w') => HI34.out.next hb')
            clear hb
            go_wp2_with (first
              | (go_at_call 45; refine (HSC.out).mono ?_; rintro e w6 ⟨s, h1, h2, h3, rfl⟩; have H1 := hide h1; have HID := hide (ints_of_own h2); have HB46 := hide (HB.out.grown h3 HB.out.size (fun q hq => HNO.out q hq)); have HB6 := hide (HB4.out.trans (HB46.out.mono HB4.out.size)); have HI2 := hide (HI2w.out _ HB46.out); have HI3 := hide (HI3w.out _ HB46.out); have qq6 := HQ.out _ HB6.out; clear h1 h2 h3)
              | ((with_reducible show wpList _ _ _ (⟨some 72, _, _, _, _, _⟩ :: _) _ _); refine wpList_callv1 44 #[.pointer (some ⟨w.heap.size, 0, none⟩)] _ _ _ _ rfl rfl rfl rfl goes_oworst ((HWD.out s H1.out _ XX c' HB6.out HID.out).mono ?_); rintro e w7 ⟨rfl, hb7⟩; have HI2 := hide (HI2.out.next hb7); have HI3 := hide (HI3.out.next hb7); have HB7 := hide (HB6.out.trans (hb7.mono HB6.out.size)); have qq7 := HQ.out _ HB7.out; have qr7 := HR.out _ HB7.out; clear hb7; refine ⟨_, rfl, ?_⟩)
              | ((with_reducible show wpList _ _ _ (⟨some 78, _, _, _, _, _⟩ :: _) _ _); refine wpList_callv1 44 #[.pointer (some ⟨w.heap.size, 0, none⟩)] _ _ _ _ rfl rfl rfl rfl goes_oworst ((HWA.out _ Z2 e2 HB7.out HI2.out).mono ?_); rintro e w8 ⟨rfl, hb8⟩; have HI3 := hide (HI3.out.next hb8); have HB8 := hide (HB7.out.trans (hb8.mono HB7.out.size)); have qq8 := HQ.out _ HB8.out; have qr8 := HR.out _ HB8.out; clear hb8; refine ⟨_, rfl, ?_⟩)
              | (go_at_call 20; (with_reducible refine (HAW.out _).mono ?_); rintro e w9 ⟨rfl, hb9⟩; have HB9 := hide (HB8.out.trans (hb9.mono HB8.out.size)); have qq9 := HQ.out _ HB9.out; have qr9 := HR.out _ HB9.out; clear hb9))
            go_ret
            exact ⟨by simp, HB01.out.trans (HB9.out.mono HB01.out.size)⟩
    · have hpo : prsOk P n = true := by unfold okBef at ho; rw [Bool.and_eq_true] at ho; exact ho.1
      have htk := okBef_len ho
      rw [htk] at hw hg2
      have hgb := gr_ord hL (B := befB P n) (r := M2) (by rw [hn]; exact hw)
      have hkb := gr_keeps hL (P := P) (by rw [hn]; exact hpo) (r := M2) (by rw [hn]; exact hw)
      rw [hn, ← hg2] at hgb hkb
      have hrb := late_eq hL (b := g2) (by rw [hn]; exact hgb.2.2.1)
      rw [hn, hgb.2.2.2] at hrb
      have hmn : r0 ≤ M2 := worst_mono hL (by rw [hn]; exact hw) (by rw [hn]; exact hr0)
      have hd1 : decide (M2 < r0) = false := decide_eq_false (by omega)
      have hd2 : ¬ M2 < r0 := by omega
      have HWB := hide (fun w' X xc (hb : Below w0.heap.size w0 w') (hI : IntsA w' w'.heap.size X (up g2)) => HWO.out w' X n xc (up g2) hb (by rw [up_length, hgb.2.1]) hlen hI)
      rw [hgb.2.2.1, if_pos rfl, hrb] at HWB
      have HKB := hide (fun w' X xc (hb : Below w0.heap.size w0 w') (hI : IntsA w' w'.heap.size X (up g2)) => HKO.out w' X n xc (up g2) hb (by rw [up_length, hgb.2.1]) hlen hI)
      rw [hkb] at HKB
      have HGN2 : Hid (g2.length = n) := hide hgb.2.1
      have HLI := hide (fun w' (hb : Below w0.heap.size w0 w') => dlist_any X lm lc w'.heap.size l w' hl hlc hll (HIL.out w' hb))
      obtain ⟨lo, hlo⟩ : ∃ lo, lo = l.take 10 := ⟨_, rfl⟩
      obtain ⟨ql, hql⟩ : ∃ ql, lo.length = ql := ⟨_, rfl⟩
      have hql10 : ql ≤ 10 := by rw [← hql, hlo, List.length_take]; omega
      rw [← hlo, hql] at HLI
      have HWL := hide (fun w' X xc (hb : Below w0.heap.size w0 w') (hI : IntsA w' w'.heap.size X lo) => HWO.out w' X ql xc lo hb hql (by omega) hI)
      have HKL := hide (fun w' (hb : Below w0.heap.size w0 w') => HKO.out w' X lm lc l hb hl hll (HIL.out w' hb))
      cases hor : ordB lo n with
      | false =>
        rw [hor, if_neg (by decide)] at HWL
        clear hv hn hA hm hP hX hl hL hAb hc1 hga hra hr0 hwn hob hg1 hkk hq18 hJL HWO HKO ho hw hgb hkb hrb hmn hpo htk hg2 hlo hql hor
        go_enter Try.func12, Try.ntmps12
        go_upto_region 1 with (fail)
        rw [← HW0.out]
        go_wp2_with (first
          | (go_at_call 18; (with_reducible refine (HOF.out _ HB0.out).mono ?_); rintro e w1 ⟨X1, c1, rfl, hx1, hb1⟩; have HB1 := hide (HB0.out.trans (hb1.mono HB0.out.size)); have qq1 := HQ.out _ HB1.out; have qr1 := HR.out _ HB1.out; have HX1 := hide hx1; clear hx1; clear hb1)
          | (go_at_call 40; (with_reducible refine (HL1.out _ X1 c1 HX1.out).mono ?_); rintro e w2 ⟨Z2, z2, e2, rfl, hz2, hI2, hb2⟩; have HB2 := hide (HB1.out.trans (hb2.mono HB1.out.size)); have qq2 := HQ.out _ HB2.out; have qr2 := HR.out _ HB2.out; have HI2 := hide hI2; have HZ2 := hide hz2; clear hI2 hz2; clear hb2))
        have HBR := hide (Below.refl w2.heap.size w2)
        have HSS := hide (fun w' (hb : Below w2.heap.size w2 w') => (⟨HQ.out _ (HB2.out.trans (hb.mono HB2.out.size)), HR.out _ (HB2.out.trans (hb.mono HB2.out.size)), hb⟩ : w'.cell? ⟨w.heap.size, 0, none⟩ = some (.slice A n c) ∧ w'.cell? ⟨w.heap.size + 1, 0, none⟩ = some (.slice PA m pc) ∧ Below w2.heap.size w2 w'))
        go_cut [10, 11, 12] from 156 (fun v10 v11 v12 wx => ∃ Z zl zc, v10 = .slice Z zl zc ∧ v11 = .int .i64 M2 ∧ v12 = .int .i64 0 ∧ Hid (g2.length = zl) ∧ Hid (IntsA wx wx.heap.size Z (up g2)) ∧ Below w2.heap.size w2 wx)
        case first =>
          refine wp_region_noPanic ?_
          refine wp_region_held_drew (S := (fun w' => w'.cell? ⟨w.heap.size, 0, none⟩ = some (.slice A n c) ∧ w'.cell? ⟨w.heap.size + 1, 0, none⟩ = some (.slice PA m pc) ∧ Below w2.heap.size w2 w')) (by kernel_rfl) (HSS.out _ HBR.out.drew) (fun hHeld => ?_)
          show wpAnyH _ _ _ _ _ _ (#[false, false, false, false, false, false, false, false, false, false, false, false] : Array Bool) _ _
          refine wpAnyH_take (i := 0) (v := .slice A n c) rfl (by kernel_rfl) (by kernel_rfl) (by kernel_rfl) (fun _ _ _ h => h) (Or.inl ⟨by rfl, ?_⟩) hHeld ?_
          · (intro w' hSw; obtain ⟨y1, y2, y3⟩ := hSw; go_simp)
          try simp only [List.getElem_toArray, List.getElem_cons_succ, List.getElem_cons_zero, put_lit, List.set_cons_zero, List.set_cons_succ]
          refine wpAnyH_take (i := 2) (v := .slice PA m pc) rfl (by kernel_rfl) (by kernel_rfl) (by kernel_rfl) (fun _ _ _ h => h) (Or.inl ⟨by rfl, ?_⟩) hHeld ?_
          · (intro w' hSw; obtain ⟨y1, y2, y3⟩ := hSw; go_simp)
          try simp only [List.getElem_toArray, List.getElem_cons_succ, List.getElem_cons_zero, put_lit, List.set_cons_zero, List.set_cons_succ]
          refine wpAnyH_ready (rs := [1]) (by kernel_rfl) (by simp) ?_
          refine AllReadyH.cons rfl (fun K hK => ?_) AllReadyH.nil
          have hBd := hHeld.2.2
          clear hHeld
          go_simp
          refine (HOF.out _ (HB2.out.trans (hBd.mono HB2.out.size))).mono ?_
          rintro e w3 ⟨X3, c3, rfl, hx3, hb3⟩
          have HX3 := hide hx3
          have HB3 := hide (hBd.trans (hb3.mono hBd.size))
          clear hx3 hb3 hBd
          go_wp2_with fail
          refine hK.out _ _ (HSS.out _ HB3.out) (fun hHeld => ?_)
          clear hK K
          try simp only [List.getElem_toArray, List.getElem_cons_succ, List.getElem_cons_zero, put_lit, List.set_cons_zero, List.set_cons_succ]
          refine wpAnyH_ready (rs := [3]) (by kernel_rfl) (by simp) ?_
          refine AllReadyH.cons rfl (fun K hK => ?_) AllReadyH.nil
          clear hHeld
          go_simp
          refine (HPR.out _ (HB2.out.trans (HB3.out.mono HB2.out.size))).mono ?_
          rintro e w4 ⟨Y4, d4, rfl, hy4, hb4⟩
          have HY4 := hide hy4
          have HX3 := hide (HX3.out.next hb4)
          have HB4 := hide (HB3.out.trans (hb4.mono HB3.out.size))
          clear hy4 hb4
          go_wp2_with fail
          refine hK.out _ _ (HSS.out _ HB4.out) (fun hHeld => ?_)
          clear hK K
          try simp only [List.getElem_toArray, List.getElem_cons_succ, List.getElem_cons_zero, put_lit, List.set_cons_zero, List.set_cons_succ]
          refine wpAnyH_ready (rs := [4]) (by kernel_rfl) (by simp) ?_
          refine AllReadyH.cons rfl (fun K hK => ?_) AllReadyH.nil
          clear hHeld
          go_simp
          refine (HL2.out _ X3 c3 Y4 d4 HX3.out HY4.out).mono ?_
          rintro e w5 ⟨Z5, z5, e5, rfl, hz5, hI5, hb5⟩
          have HI5 := hide hI5
          have HZ5 := hide hz5
          have HB5 := hide (HB4.out.trans (hb5.mono HB4.out.size))
          clear hI5 hz5 hb5
          go_wp2_with fail
          refine hK.out _ _ (HSS.out _ HB5.out) (fun hHeld => ?_)
          clear hK K
          try simp only [List.getElem_toArray, List.getElem_cons_succ, List.getElem_cons_zero, put_lit, List.set_cons_zero, List.set_cons_succ]
          refine wpAnyH_take (i := 5) (v := .tuple #[.slice Z5 z5 e5, .int .i64 M2, .int .i64 0]) rfl (by kernel_rfl) (by kernel_rfl) (by kernel_rfl) (fun _ _ _ h => h) (Or.inl ⟨by rfl, ?_⟩) hHeld ?_
          · (intro w' hSw; obtain ⟨y1, y2, y3⟩ := hSw; go_simp)
          try simp only [List.getElem_toArray, List.getElem_cons_succ, List.getElem_cons_zero, put_lit, List.set_cons_zero, List.set_cons_succ]
          refine wpAnyH_take (i := 6) (v := .slice Z5 z5 e5) rfl (by kernel_rfl) (by kernel_rfl) (by kernel_rfl) (fun _ _ _ h => h) (Or.inl ⟨by rfl, ?_⟩) hHeld ?_
          · (intro w' hSw; obtain ⟨y1, y2, y3⟩ := hSw; go_simp)
          try simp only [List.getElem_toArray, List.getElem_cons_succ, List.getElem_cons_zero, put_lit, List.set_cons_zero, List.set_cons_succ]
          refine wpAnyH_take (i := 7) (v := .int .i64 M2) rfl (by kernel_rfl) (by kernel_rfl) (by kernel_rfl) (fun _ _ _ h => h) (Or.inl ⟨by rfl, ?_⟩) hHeld ?_
          · (intro w' hSw; obtain ⟨y1, y2, y3⟩ := hSw; go_simp)
          try simp only [List.getElem_toArray, List.getElem_cons_succ, List.getElem_cons_zero, put_lit, List.set_cons_zero, List.set_cons_succ]
          refine wpAnyH_take (i := 8) (v := .int .i64 0) rfl (by kernel_rfl) (by kernel_rfl) (by kernel_rfl) (fun _ _ _ h => h) (Or.inl ⟨by rfl, ?_⟩) hHeld ?_
          · (intro w' hSw; obtain ⟨y1, y2, y3⟩ := hSw; go_simp)
          try simp only [List.getElem_toArray, List.getElem_cons_succ, List.getElem_cons_zero, put_lit, List.set_cons_zero, List.set_cons_succ]
          refine wpAnyH_take (i := 9) (v := .slice Z5 z5 e5) rfl (by kernel_rfl) (by kernel_rfl) (by kernel_rfl) (fun _ _ _ h => h) (Or.inl ⟨by rfl, ?_⟩) hHeld ?_
          · (intro w' hSw; obtain ⟨y1, y2, y3⟩ := hSw; go_simp)
          try simp only [List.getElem_toArray, List.getElem_cons_succ, List.getElem_cons_zero, put_lit, List.set_cons_zero, List.set_cons_succ]
          refine wpAnyH_take (i := 10) (v := .int .i64 M2) rfl (by kernel_rfl) (by kernel_rfl) (by kernel_rfl) (fun _ _ _ h => h) (Or.inl ⟨by rfl, ?_⟩) hHeld ?_
          · (intro w' hSw; obtain ⟨y1, y2, y3⟩ := hSw; go_simp)
          try simp only [List.getElem_toArray, List.getElem_cons_succ, List.getElem_cons_zero, put_lit, List.set_cons_zero, List.set_cons_succ]
          refine wpAnyH_take (i := 11) (v := .int .i64 0) rfl (by kernel_rfl) (by kernel_rfl) (by kernel_rfl) (fun _ _ _ h => h) (Or.inl ⟨by rfl, ?_⟩) hHeld ?_
          · (intro w' hSw; obtain ⟨y1, y2, y3⟩ := hSw; go_simp)
          try simp only [List.getElem_toArray, List.getElem_cons_succ, List.getElem_cons_zero, put_lit, List.set_cons_zero, List.set_cons_succ]
          refine wpAnyH_done (by kernel_rfl) ?_ _
          refine NoPanic.normal ?_
          go_wp2_with fail
          go_meet
          exact ⟨_, _, _, rfl, rfl, rfl, HZ5, HI5, HB5.out⟩
        case rest =>
          obtain ⟨Z3, z3, e3, rfl, rfl, rfl, HZ3, HI3, hb3⟩ := hcut
          obtain rfl : n = z2 := HGN.out.symm.trans HZ2.out
          obtain rfl : n = z3 := HGN2.out.symm.trans HZ3.out
          have HI2 := hide (HI2.out.next hb3)
          have HB3 := hide (HB2.out.trans (hb3.mono HB2.out.size))
          have qq3 := HQ.out _ HB3.out
          clear hb3
          go_wp2_with (first
            | (go_at_call 19; (with_reducible refine (HRV.out _ HB3.out).mono ?_); rintro e w4 ⟨rfl, hb4⟩; have HI2 := hide (HI2.out.next hb4); have HI3 := hide (HI3.out.next hb4); have HB4 := hide (HB3.out.trans (hb4.mono HB3.out.size)); have qq4 := HQ.out _ HB4.out; have qr4 := HR.out _ HB4.out; clear hb4))
          have HI24 := HI2
          have HI34 := HI3
          go_loopw [14, 58] (fun v14 v58 wr => ∃ (k c' : Nat) (XX : Option Addr), k ≤ n ∧ v58 = .int .i64 k ∧ v14 = .slice XX k c' ∧ k ≤ c' ∧ Hid (wr.ownsRow w4.heap.size 3 1 (.slice XX k c') k ((up (List.range k)).map (Value.int .i64))) ∧ Below w4.heap.size w4 wr) (fun _ v _ => n - (intOf v).toNat)
          case atStart => exact ⟨0, 0, none, Nat.zero_le _, rfl, rfl, Nat.le_refl _, hide (World.ownsRow_nil _ _ _ _), Below.refl _ _⟩
          case round =>
            obtain ⟨k, c', XX, hk, rfl, rfl, hkc, HO, hb⟩ := hrel
            have HB := hide hb
            obtain ⟨w5, rfl⟩ : ∃ w5 : World, w5 = wr := ⟨_, rfl⟩
            by_cases hlt : k < n
            · have hkn : (k : Int) < (n : Int) := by omega
              clear hb
              go_wp2_with (at_builtin; refine wpList_app1 (w0 := w5) _ _ 41 3 (.int .i64 0) 8 rfl rfl Try.underlying41 info_int rfl w4.heap.size (.slice XX k c') k _ (.int .i64 (k : Nat)) rfl rfl rfl ⟨_, rfl⟩ HO.out rfl (by omega) (by omega) (by have := HB.out.size; omega) ?_; intro g2 cg w6 hown1 hd1 hd2 hg1 hgl2 hgrow; have HOW1 := hide hown1; have HG := hide hgrow; clear hown1 hgrow)
              go_roundw
              case rel =>
                refine ⟨k + 1, cg, some ⟨g2, 0, none⟩, by omega, by go_num, rfl, hd1, hide ?_, HB.out.grown HG.out HB.out.size (fun q hq => (own_lt HO.out q hq).1)⟩
                have e9 : (up (List.range (k + 1))).map (Value.int .i64) = (up (List.range k)).map (Value.int .i64) ++ [Value.int .i64 (k : Int)] := by simp [up, List.range_succ]
                rw [e9]; exact HOW1.out
              case measure => simp [intOf] <;> omega
            · obtain rfl : n = k := by omega
              have HB5 := hide (HB4.out.trans (hb.mono HB4.out.size))
              have HSC := hide (HSR.out w5 w4.heap.size XX c' HB5.out HB4.out.size HO.out)
              have HI2 := hide (HI2.out.next hb)
              have HI3 := hide (HI3.out.next hb)
              have HI2 := hide (HI2.out.more (Nat.le_refl _))
              have qq5 := HQ.out _ HB5.out
              have HNO := hide (fun g (hg : (Value.slice XX n c').ownBlock = some g) => (own_lt HO.out g hg).1)
              have HI2w := hide (fun w' (hb' : Below w4.heap.size w4 w') => HI24.out.next hb')
              have HI3w := hide (fun w' (hb' : Below w4.heap.size w4 w') => HI34.out.next hb')
              clear hb
              go_wp2_with (first
                | (go_at_call 45; refine (HSC.out).mono ?_; rintro e w6 ⟨s, h1, h2, h3, rfl⟩; have H1 := hide h1; have HID := hide (ints_of_own h2); have HB46 := hide (HB.out.grown h3 HB.out.size (fun q hq => HNO.out q hq)); have HB6 := hide (HB4.out.trans (HB46.out.mono HB4.out.size)); have HI2 := hide (HI2w.out _ HB46.out); have HI3 := hide (HI3w.out _ HB46.out); have qq6 := HQ.out _ HB6.out; clear h1 h2 h3)
                | ((with_reducible show wpList _ _ _ (⟨some 72, _, _, _, _, _⟩ :: _) _ _); refine wpList_callv1 44 #[.pointer (some ⟨w.heap.size, 0, none⟩)] _ _ _ _ rfl rfl rfl rfl goes_oworst ((HWD.out s H1.out _ XX c' HB6.out HID.out).mono ?_); rintro e w7 ⟨rfl, hb7⟩; have HI2 := hide (HI2.out.next hb7); have HI3 := hide (HI3.out.next hb7); have HB7 := hide (HB6.out.trans (hb7.mono HB6.out.size)); have qq7 := HQ.out _ HB7.out; have qr7 := HR.out _ HB7.out; clear hb7; refine ⟨_, rfl, ?_⟩)
                | ((with_reducible show wpList _ _ _ (⟨some 78, _, _, _, _, _⟩ :: _) _ _); refine wpList_callv1 44 #[.pointer (some ⟨w.heap.size, 0, none⟩)] _ _ _ _ rfl rfl rfl rfl goes_oworst ((HWA.out _ Z2 e2 HB7.out HI2.out).mono ?_); rintro e w8 ⟨rfl, hb8⟩; have HI3 := hide (HI3.out.next hb8); have HB8 := hide (HB7.out.trans (hb8.mono HB7.out.size)); have qq8 := HQ.out _ HB8.out; have qr8 := HR.out _ HB8.out; clear hb8; refine ⟨_, rfl, ?_⟩)
                | ((with_reducible show wpList _ _ _ (⟨some 112, _, _, _, _, _⟩ :: _) _ _); refine wpList_callv1 44 #[.pointer (some ⟨w.heap.size, 0, none⟩)] _ _ _ _ rfl rfl rfl rfl goes_oworst ((HWB.out _ Z3 e3 HB8.out HI3.out).mono ?_); rintro e w9 ⟨rfl, hb9⟩; have HI3 := hide (HI3.out.next hb9); have HB9 := hide (HB8.out.trans (hb9.mono HB8.out.size)); have qq9 := HQ.out _ HB9.out; have qr9 := HR.out _ HB9.out; clear hb9; refine ⟨_, rfl, ?_⟩)
                | ((with_reducible show wpList _ _ _ (⟨some 130, _, _, _, _, _⟩ :: _) _ _); refine wpList_callv1g 47 #[.pointer (some ⟨w.heap.size + 1, 0, none⟩)] _ _ _ _ rfl (by kernel_rfl) rfl rfl goes_okeeps ((HKB.out _ Z3 e3 HB9.out HI3.out).mono ?_); rintro e w10 ⟨rfl, hb10⟩; have HB10 := hide (HB9.out.trans (hb10.mono HB9.out.size)); have qq10 := HQ.out _ HB10.out; have qr10 := HR.out _ HB10.out; clear hb10; refine ⟨_, rfl, ?_⟩)
                | (go_at_call 28; (with_reducible refine (HLI.out _ HB10.out).mono ?_); rintro e w11 ⟨Y11, d11, rfl, hd11, hY11, hb11, _⟩; have HY11 := hide hY11; have HB11 := hide (HB10.out.trans (hb11.mono HB10.out.size)); have qq11 := HQ.out _ HB11.out; have qr11 := HR.out _ HB11.out; clear hY11 hb11)
                | ((with_reducible show wpList _ _ _ (⟨some 137, _, _, _, _, _⟩ :: _) _ _); refine wpList_callv1 44 #[.pointer (some ⟨w.heap.size, 0, none⟩)] _ _ _ _ rfl rfl rfl rfl goes_oworst ((HWL.out _ Y11 d11 HB11.out HY11.out).mono ?_); rintro e w12 ⟨rfl, hb12⟩; have HB12 := hide (HB11.out.trans (hb12.mono HB11.out.size)); have qq12 := HQ.out _ HB12.out; have qr12 := HR.out _ HB12.out; clear hb12; refine ⟨_, rfl, ?_⟩)
                | (go_at_call 20; (with_reducible refine (HAW.out _).mono ?_); rintro e w13 ⟨rfl, hb13⟩; have HB13 := hide (HB12.out.trans (hb13.mono HB12.out.size)); have qq13 := HQ.out _ HB13.out; have qr13 := HR.out _ HB13.out; clear hb13))
              go_ret
              exact ⟨by simp, HB01.out.trans (HB13.out.mono HB01.out.size)⟩
      | true =>
        have hlol : lo = l := by
          rw [hlo]
          refine List.take_of_length_le ?_
          have h9 := (ordB_iff.1 hor).1
          rw [hlo, List.length_take] at h9
          omega
        rw [hor, if_pos rfl] at HWL
        cases hkl : keepB P l with
        | false =>
          rw [hkl] at HKL
          obtain ⟨RD, hRD⟩ : ∃ RD, RD = rdelTo L (rowN L lo) n := ⟨_, rfl⟩
          rw [← hRD] at HWL
          clear hRD
          clear hv hn hA hm hP hX hl hL hAb hc1 hga hra hr0 hwn hob hg1 hkk hq18 hJL HWO HKO ho hw hgb hkb hrb hmn hpo htk hg2 hlo hql hor hkl hlol
          go_enter Try.func12, Try.ntmps12
          go_upto_region 1 with (fail)
          rw [← HW0.out]
          go_wp2_with (first
            | (go_at_call 18; (with_reducible refine (HOF.out _ HB0.out).mono ?_); rintro e w1 ⟨X1, c1, rfl, hx1, hb1⟩; have HB1 := hide (HB0.out.trans (hb1.mono HB0.out.size)); have qq1 := HQ.out _ HB1.out; have qr1 := HR.out _ HB1.out; have HX1 := hide hx1; clear hx1; clear hb1)
            | (go_at_call 40; (with_reducible refine (HL1.out _ X1 c1 HX1.out).mono ?_); rintro e w2 ⟨Z2, z2, e2, rfl, hz2, hI2, hb2⟩; have HB2 := hide (HB1.out.trans (hb2.mono HB1.out.size)); have qq2 := HQ.out _ HB2.out; have qr2 := HR.out _ HB2.out; have HI2 := hide hI2; have HZ2 := hide hz2; clear hI2 hz2; clear hb2))
          have HBR := hide (Below.refl w2.heap.size w2)
          have HSS := hide (fun w' (hb : Below w2.heap.size w2 w') => (⟨HQ.out _ (HB2.out.trans (hb.mono HB2.out.size)), HR.out _ (HB2.out.trans (hb.mono HB2.out.size)), hb⟩ : w'.cell? ⟨w.heap.size, 0, none⟩ = some (.slice A n c) ∧ w'.cell? ⟨w.heap.size + 1, 0, none⟩ = some (.slice PA m pc) ∧ Below w2.heap.size w2 w'))
          go_cut [10, 11, 12] from 156 (fun v10 v11 v12 wx => ∃ Z zl zc, v10 = .slice Z zl zc ∧ v11 = .int .i64 M2 ∧ v12 = .int .i64 0 ∧ Hid (g2.length = zl) ∧ Hid (IntsA wx wx.heap.size Z (up g2)) ∧ Below w2.heap.size w2 wx)
          case first =>
            refine wp_region_noPanic ?_
            refine wp_region_held_drew (S := (fun w' => w'.cell? ⟨w.heap.size, 0, none⟩ = some (.slice A n c) ∧ w'.cell? ⟨w.heap.size + 1, 0, none⟩ = some (.slice PA m pc) ∧ Below w2.heap.size w2 w')) (by kernel_rfl) (HSS.out _ HBR.out.drew) (fun hHeld => ?_)
            show wpAnyH _ _ _ _ _ _ (#[false, false, false, false, false, false, false, false, false, false, false, false] : Array Bool) _ _
            refine wpAnyH_take (i := 0) (v := .slice A n c) rfl (by kernel_rfl) (by kernel_rfl) (by kernel_rfl) (fun _ _ _ h => h) (Or.inl ⟨by rfl, ?_⟩) hHeld ?_
            · (intro w' hSw; obtain ⟨y1, y2, y3⟩ := hSw; go_simp)
            try simp only [List.getElem_toArray, List.getElem_cons_succ, List.getElem_cons_zero, put_lit, List.set_cons_zero, List.set_cons_succ]
            refine wpAnyH_take (i := 2) (v := .slice PA m pc) rfl (by kernel_rfl) (by kernel_rfl) (by kernel_rfl) (fun _ _ _ h => h) (Or.inl ⟨by rfl, ?_⟩) hHeld ?_
            · (intro w' hSw; obtain ⟨y1, y2, y3⟩ := hSw; go_simp)
            try simp only [List.getElem_toArray, List.getElem_cons_succ, List.getElem_cons_zero, put_lit, List.set_cons_zero, List.set_cons_succ]
            refine wpAnyH_ready (rs := [1]) (by kernel_rfl) (by simp) ?_
            refine AllReadyH.cons rfl (fun K hK => ?_) AllReadyH.nil
            have hBd := hHeld.2.2
            clear hHeld
            go_simp
            refine (HOF.out _ (HB2.out.trans (hBd.mono HB2.out.size))).mono ?_
            rintro e w3 ⟨X3, c3, rfl, hx3, hb3⟩
            have HX3 := hide hx3
            have HB3 := hide (hBd.trans (hb3.mono hBd.size))
            clear hx3 hb3 hBd
            go_wp2_with fail
            refine hK.out _ _ (HSS.out _ HB3.out) (fun hHeld => ?_)
            clear hK K
            try simp only [List.getElem_toArray, List.getElem_cons_succ, List.getElem_cons_zero, put_lit, List.set_cons_zero, List.set_cons_succ]
            refine wpAnyH_ready (rs := [3]) (by kernel_rfl) (by simp) ?_
            refine AllReadyH.cons rfl (fun K hK => ?_) AllReadyH.nil
            clear hHeld
            go_simp
            refine (HPR.out _ (HB2.out.trans (HB3.out.mono HB2.out.size))).mono ?_
            rintro e w4 ⟨Y4, d4, rfl, hy4, hb4⟩
            have HY4 := hide hy4
            have HX3 := hide (HX3.out.next hb4)
            have HB4 := hide (HB3.out.trans (hb4.mono HB3.out.size))
            clear hy4 hb4
            go_wp2_with fail
            refine hK.out _ _ (HSS.out _ HB4.out) (fun hHeld => ?_)
            clear hK K
            try simp only [List.getElem_toArray, List.getElem_cons_succ, List.getElem_cons_zero, put_lit, List.set_cons_zero, List.set_cons_succ]
            refine wpAnyH_ready (rs := [4]) (by kernel_rfl) (by simp) ?_
            refine AllReadyH.cons rfl (fun K hK => ?_) AllReadyH.nil
            clear hHeld
            go_simp
            refine (HL2.out _ X3 c3 Y4 d4 HX3.out HY4.out).mono ?_
            rintro e w5 ⟨Z5, z5, e5, rfl, hz5, hI5, hb5⟩
            have HI5 := hide hI5
            have HZ5 := hide hz5
            have HB5 := hide (HB4.out.trans (hb5.mono HB4.out.size))
            clear hI5 hz5 hb5
            go_wp2_with fail
            refine hK.out _ _ (HSS.out _ HB5.out) (fun hHeld => ?_)
            clear hK K
            try simp only [List.getElem_toArray, List.getElem_cons_succ, List.getElem_cons_zero, put_lit, List.set_cons_zero, List.set_cons_succ]
            refine wpAnyH_take (i := 5) (v := .tuple #[.slice Z5 z5 e5, .int .i64 M2, .int .i64 0]) rfl (by kernel_rfl) (by kernel_rfl) (by kernel_rfl) (fun _ _ _ h => h) (Or.inl ⟨by rfl, ?_⟩) hHeld ?_
            · (intro w' hSw; obtain ⟨y1, y2, y3⟩ := hSw; go_simp)
            try simp only [List.getElem_toArray, List.getElem_cons_succ, List.getElem_cons_zero, put_lit, List.set_cons_zero, List.set_cons_succ]
            refine wpAnyH_take (i := 6) (v := .slice Z5 z5 e5) rfl (by kernel_rfl) (by kernel_rfl) (by kernel_rfl) (fun _ _ _ h => h) (Or.inl ⟨by rfl, ?_⟩) hHeld ?_
            · (intro w' hSw; obtain ⟨y1, y2, y3⟩ := hSw; go_simp)
            try simp only [List.getElem_toArray, List.getElem_cons_succ, List.getElem_cons_zero, put_lit, List.set_cons_zero, List.set_cons_succ]
            refine wpAnyH_take (i := 7) (v := .int .i64 M2) rfl (by kernel_rfl) (by kernel_rfl) (by kernel_rfl) (fun _ _ _ h => h) (Or.inl ⟨by rfl, ?_⟩) hHeld ?_
            · (intro w' hSw; obtain ⟨y1, y2, y3⟩ := hSw; go_simp)
            try simp only [List.getElem_toArray, List.getElem_cons_succ, List.getElem_cons_zero, put_lit, List.set_cons_zero, List.set_cons_succ]
            refine wpAnyH_take (i := 8) (v := .int .i64 0) rfl (by kernel_rfl) (by kernel_rfl) (by kernel_rfl) (fun _ _ _ h => h) (Or.inl ⟨by rfl, ?_⟩) hHeld ?_
            · (intro w' hSw; obtain ⟨y1, y2, y3⟩ := hSw; go_simp)
            try simp only [List.getElem_toArray, List.getElem_cons_succ, List.getElem_cons_zero, put_lit, List.set_cons_zero, List.set_cons_succ]
            refine wpAnyH_take (i := 9) (v := .slice Z5 z5 e5) rfl (by kernel_rfl) (by kernel_rfl) (by kernel_rfl) (fun _ _ _ h => h) (Or.inl ⟨by rfl, ?_⟩) hHeld ?_
            · (intro w' hSw; obtain ⟨y1, y2, y3⟩ := hSw; go_simp)
            try simp only [List.getElem_toArray, List.getElem_cons_succ, List.getElem_cons_zero, put_lit, List.set_cons_zero, List.set_cons_succ]
            refine wpAnyH_take (i := 10) (v := .int .i64 M2) rfl (by kernel_rfl) (by kernel_rfl) (by kernel_rfl) (fun _ _ _ h => h) (Or.inl ⟨by rfl, ?_⟩) hHeld ?_
            · (intro w' hSw; obtain ⟨y1, y2, y3⟩ := hSw; go_simp)
            try simp only [List.getElem_toArray, List.getElem_cons_succ, List.getElem_cons_zero, put_lit, List.set_cons_zero, List.set_cons_succ]
            refine wpAnyH_take (i := 11) (v := .int .i64 0) rfl (by kernel_rfl) (by kernel_rfl) (by kernel_rfl) (fun _ _ _ h => h) (Or.inl ⟨by rfl, ?_⟩) hHeld ?_
            · (intro w' hSw; obtain ⟨y1, y2, y3⟩ := hSw; go_simp)
            try simp only [List.getElem_toArray, List.getElem_cons_succ, List.getElem_cons_zero, put_lit, List.set_cons_zero, List.set_cons_succ]
            refine wpAnyH_done (by kernel_rfl) ?_ _
            refine NoPanic.normal ?_
            go_wp2_with fail
            go_meet
            exact ⟨_, _, _, rfl, rfl, rfl, HZ5, HI5, HB5.out⟩
          case rest =>
            obtain ⟨Z3, z3, e3, rfl, rfl, rfl, HZ3, HI3, hb3⟩ := hcut
            obtain rfl : n = z2 := HGN.out.symm.trans HZ2.out
            obtain rfl : n = z3 := HGN2.out.symm.trans HZ3.out
            have HI2 := hide (HI2.out.next hb3)
            have HB3 := hide (HB2.out.trans (hb3.mono HB2.out.size))
            have qq3 := HQ.out _ HB3.out
            clear hb3
            go_wp2_with (first
              | (go_at_call 19; (with_reducible refine (HRV.out _ HB3.out).mono ?_); rintro e w4 ⟨rfl, hb4⟩; have HI2 := hide (HI2.out.next hb4); have HI3 := hide (HI3.out.next hb4); have HB4 := hide (HB3.out.trans (hb4.mono HB3.out.size)); have qq4 := HQ.out _ HB4.out; have qr4 := HR.out _ HB4.out; clear hb4))
            have HI24 := HI2
            have HI34 := HI3
            go_loopw [14, 58] (fun v14 v58 wr => ∃ (k c' : Nat) (XX : Option Addr), k ≤ n ∧ v58 = .int .i64 k ∧ v14 = .slice XX k c' ∧ k ≤ c' ∧ Hid (wr.ownsRow w4.heap.size 3 1 (.slice XX k c') k ((up (List.range k)).map (Value.int .i64))) ∧ Below w4.heap.size w4 wr) (fun _ v _ => n - (intOf v).toNat)
            case atStart => exact ⟨0, 0, none, Nat.zero_le _, rfl, rfl, Nat.le_refl _, hide (World.ownsRow_nil _ _ _ _), Below.refl _ _⟩
            case round =>
              obtain ⟨k, c', XX, hk, rfl, rfl, hkc, HO, hb⟩ := hrel
              have HB := hide hb
              obtain ⟨w5, rfl⟩ : ∃ w5 : World, w5 = wr := ⟨_, rfl⟩
              by_cases hlt : k < n
              · have hkn : (k : Int) < (n : Int) := by omega
                clear hb
                go_wp2_with (at_builtin; refine wpList_app1 (w0 := w5) _ _ 41 3 (.int .i64 0) 8 rfl rfl Try.underlying41 info_int rfl w4.heap.size (.slice XX k c') k _ (.int .i64 (k : Nat)) rfl rfl rfl ⟨_, rfl⟩ HO.out rfl (by omega) (by omega) (by have := HB.out.size; omega) ?_; intro g2 cg w6 hown1 hd1 hd2 hg1 hgl2 hgrow; have HOW1 := hide hown1; have HG := hide hgrow; clear hown1 hgrow)
                go_roundw
                case rel =>
                  refine ⟨k + 1, cg, some ⟨g2, 0, none⟩, by omega, by go_num, rfl, hd1, hide ?_, HB.out.grown HG.out HB.out.size (fun q hq => (own_lt HO.out q hq).1)⟩
                  have e9 : (up (List.range (k + 1))).map (Value.int .i64) = (up (List.range k)).map (Value.int .i64) ++ [Value.int .i64 (k : Int)] := by simp [up, List.range_succ]
                  rw [e9]; exact HOW1.out
                case measure => simp [intOf] <;> omega
              · obtain rfl : n = k := by omega
                have HB5 := hide (HB4.out.trans (hb.mono HB4.out.size))
                have HSC := hide (HSR.out w5 w4.heap.size XX c' HB5.out HB4.out.size HO.out)
                have HI2 := hide (HI2.out.next hb)
                have HI3 := hide (HI3.out.next hb)
                have HI2 := hide (HI2.out.more (Nat.le_refl _))
                have qq5 := HQ.out _ HB5.out
                have HNO := hide (fun g (hg : (Value.slice XX n c').ownBlock = some g) => (own_lt HO.out g hg).1)
                have HI2w := hide (fun w' (hb' : Below w4.heap.size w4 w') => HI24.out.next hb')
                have HI3w := hide (fun w' (hb' : Below w4.heap.size w4 w') => HI34.out.next hb')
                clear hb
                go_wp2_with (first
                  | (go_at_call 45; refine (HSC.out).mono ?_; rintro e w6 ⟨s, h1, h2, h3, rfl⟩; have H1 := hide h1; have HID := hide (ints_of_own h2); have HB46 := hide (HB.out.grown h3 HB.out.size (fun q hq => HNO.out q hq)); have HB6 := hide (HB4.out.trans (HB46.out.mono HB4.out.size)); have HI2 := hide (HI2w.out _ HB46.out); have HI3 := hide (HI3w.out _ HB46.out); have qq6 := HQ.out _ HB6.out; clear h1 h2 h3)
                  | ((with_reducible show wpList _ _ _ (⟨some 72, _, _, _, _, _⟩ :: _) _ _); refine wpList_callv1 44 #[.pointer (some ⟨w.heap.size, 0, none⟩)] _ _ _ _ rfl rfl rfl rfl goes_oworst ((HWD.out s H1.out _ XX c' HB6.out HID.out).mono ?_); rintro e w7 ⟨rfl, hb7⟩; have HI2 := hide (HI2.out.next hb7); have HI3 := hide (HI3.out.next hb7); have HB7 := hide (HB6.out.trans (hb7.mono HB6.out.size)); have qq7 := HQ.out _ HB7.out; have qr7 := HR.out _ HB7.out; clear hb7; refine ⟨_, rfl, ?_⟩)
                  | ((with_reducible show wpList _ _ _ (⟨some 78, _, _, _, _, _⟩ :: _) _ _); refine wpList_callv1 44 #[.pointer (some ⟨w.heap.size, 0, none⟩)] _ _ _ _ rfl rfl rfl rfl goes_oworst ((HWA.out _ Z2 e2 HB7.out HI2.out).mono ?_); rintro e w8 ⟨rfl, hb8⟩; have HI3 := hide (HI3.out.next hb8); have HB8 := hide (HB7.out.trans (hb8.mono HB7.out.size)); have qq8 := HQ.out _ HB8.out; have qr8 := HR.out _ HB8.out; clear hb8; refine ⟨_, rfl, ?_⟩)
                  | ((with_reducible show wpList _ _ _ (⟨some 112, _, _, _, _, _⟩ :: _) _ _); refine wpList_callv1 44 #[.pointer (some ⟨w.heap.size, 0, none⟩)] _ _ _ _ rfl rfl rfl rfl goes_oworst ((HWB.out _ Z3 e3 HB8.out HI3.out).mono ?_); rintro e w9 ⟨rfl, hb9⟩; have HI3 := hide (HI3.out.next hb9); have HB9 := hide (HB8.out.trans (hb9.mono HB8.out.size)); have qq9 := HQ.out _ HB9.out; have qr9 := HR.out _ HB9.out; clear hb9; refine ⟨_, rfl, ?_⟩)
                  | ((with_reducible show wpList _ _ _ (⟨some 130, _, _, _, _, _⟩ :: _) _ _); refine wpList_callv1g 47 #[.pointer (some ⟨w.heap.size + 1, 0, none⟩)] _ _ _ _ rfl (by kernel_rfl) rfl rfl goes_okeeps ((HKB.out _ Z3 e3 HB9.out HI3.out).mono ?_); rintro e w10 ⟨rfl, hb10⟩; have HB10 := hide (HB9.out.trans (hb10.mono HB9.out.size)); have qq10 := HQ.out _ HB10.out; have qr10 := HR.out _ HB10.out; clear hb10; refine ⟨_, rfl, ?_⟩)
                  | (go_at_call 28; (with_reducible refine (HLI.out _ HB10.out).mono ?_); rintro e w11 ⟨Y11, d11, rfl, hd11, hY11, hb11, _⟩; have HY11 := hide hY11; have HB11 := hide (HB10.out.trans (hb11.mono HB10.out.size)); have qq11 := HQ.out _ HB11.out; have qr11 := HR.out _ HB11.out; clear hY11 hb11)
                  | ((with_reducible show wpList _ _ _ (⟨some 137, _, _, _, _, _⟩ :: _) _ _); refine wpList_callv1 44 #[.pointer (some ⟨w.heap.size, 0, none⟩)] _ _ _ _ rfl rfl rfl rfl goes_oworst ((HWL.out _ Y11 d11 HB11.out HY11.out).mono ?_); rintro e w12 ⟨rfl, hb12⟩; have HB12 := hide (HB11.out.trans (hb12.mono HB11.out.size)); have qq12 := HQ.out _ HB12.out; have qr12 := HR.out _ HB12.out; clear hb12; refine ⟨_, rfl, ?_⟩)
                  | ((with_reducible show wpList _ _ _ (⟨some 145, _, _, _, _, _⟩ :: _) _ _); refine wpList_callv1g 47 #[.pointer (some ⟨w.heap.size + 1, 0, none⟩)] _ _ _ _ rfl (by kernel_rfl) rfl rfl goes_okeeps ((HKL.out _ HB12.out).mono ?_); rintro e w13 ⟨rfl, hb13⟩; have HB13 := hide (HB12.out.trans (hb13.mono HB12.out.size)); have qq13 := HQ.out _ HB13.out; have qr13 := HR.out _ HB13.out; clear hb13; refine ⟨_, rfl, ?_⟩)
                  | (go_at_call 20; (with_reducible refine (HAW.out _).mono ?_); rintro e w14 ⟨rfl, hb14⟩; have HB14 := hide (HB13.out.trans (hb14.mono HB13.out.size)); have qq14 := HQ.out _ HB14.out; have qr14 := HR.out _ HB14.out; clear hb14))
                go_ret
                exact ⟨by simp, HB01.out.trans (HB14.out.mono HB01.out.size)⟩
        | true =>
          rw [hkl] at HKL
          obtain ⟨rx, hx1, hx2⟩ := keep_worst hL (P := P) (o := lo) (by rw [hn]; exact hor) (by rw [hlol]; exact hkl)
          rw [hn] at hx1 hx2
          rw [hw] at hx1
          injection hx1 with hx1
          subst hx1
          obtain ⟨RD, hRD⟩ : ∃ RD, RD = rdelTo L (rowN L lo) n := ⟨_, rfl⟩
          rw [← hRD] at HWL hx2
          have hd3 : decide (M2 ≤ RD) = true := decide_eq_true hx2
          clear hRD
          clear hv hn hA hm hP hX hl hL hAb hc1 hga hra hr0 hwn hob hg1 hkk hq18 hJL HWO HKO ho hw hgb hkb hrb hmn hpo htk hg2 hlo hql hor hkl hlol hx2
          go_enter Try.func12, Try.ntmps12
          go_upto_region 1 with (fail)
          rw [← HW0.out]
          go_wp2_with (first
            | (go_at_call 18; (with_reducible refine (HOF.out _ HB0.out).mono ?_); rintro e w1 ⟨X1, c1, rfl, hx1, hb1⟩; have HB1 := hide (HB0.out.trans (hb1.mono HB0.out.size)); have qq1 := HQ.out _ HB1.out; have qr1 := HR.out _ HB1.out; have HX1 := hide hx1; clear hx1; clear hb1)
            | (go_at_call 40; (with_reducible refine (HL1.out _ X1 c1 HX1.out).mono ?_); rintro e w2 ⟨Z2, z2, e2, rfl, hz2, hI2, hb2⟩; have HB2 := hide (HB1.out.trans (hb2.mono HB1.out.size)); have qq2 := HQ.out _ HB2.out; have qr2 := HR.out _ HB2.out; have HI2 := hide hI2; have HZ2 := hide hz2; clear hI2 hz2; clear hb2))
          have HBR := hide (Below.refl w2.heap.size w2)
          have HSS := hide (fun w' (hb : Below w2.heap.size w2 w') => (⟨HQ.out _ (HB2.out.trans (hb.mono HB2.out.size)), HR.out _ (HB2.out.trans (hb.mono HB2.out.size)), hb⟩ : w'.cell? ⟨w.heap.size, 0, none⟩ = some (.slice A n c) ∧ w'.cell? ⟨w.heap.size + 1, 0, none⟩ = some (.slice PA m pc) ∧ Below w2.heap.size w2 w'))
          go_cut [10, 11, 12] from 156 (fun v10 v11 v12 wx => ∃ Z zl zc, v10 = .slice Z zl zc ∧ v11 = .int .i64 M2 ∧ v12 = .int .i64 0 ∧ Hid (g2.length = zl) ∧ Hid (IntsA wx wx.heap.size Z (up g2)) ∧ Below w2.heap.size w2 wx)
          case first =>
            refine wp_region_noPanic ?_
            refine wp_region_held_drew (S := (fun w' => w'.cell? ⟨w.heap.size, 0, none⟩ = some (.slice A n c) ∧ w'.cell? ⟨w.heap.size + 1, 0, none⟩ = some (.slice PA m pc) ∧ Below w2.heap.size w2 w')) (by kernel_rfl) (HSS.out _ HBR.out.drew) (fun hHeld => ?_)
            show wpAnyH _ _ _ _ _ _ (#[false, false, false, false, false, false, false, false, false, false, false, false] : Array Bool) _ _
            refine wpAnyH_take (i := 0) (v := .slice A n c) rfl (by kernel_rfl) (by kernel_rfl) (by kernel_rfl) (fun _ _ _ h => h) (Or.inl ⟨by rfl, ?_⟩) hHeld ?_
            · (intro w' hSw; obtain ⟨y1, y2, y3⟩ := hSw; go_simp)
            try simp only [List.getElem_toArray, List.getElem_cons_succ, List.getElem_cons_zero, put_lit, List.set_cons_zero, List.set_cons_succ]
            refine wpAnyH_take (i := 2) (v := .slice PA m pc) rfl (by kernel_rfl) (by kernel_rfl) (by kernel_rfl) (fun _ _ _ h => h) (Or.inl ⟨by rfl, ?_⟩) hHeld ?_
            · (intro w' hSw; obtain ⟨y1, y2, y3⟩ := hSw; go_simp)
            try simp only [List.getElem_toArray, List.getElem_cons_succ, List.getElem_cons_zero, put_lit, List.set_cons_zero, List.set_cons_succ]
            refine wpAnyH_ready (rs := [1]) (by kernel_rfl) (by simp) ?_
            refine AllReadyH.cons rfl (fun K hK => ?_) AllReadyH.nil
            have hBd := hHeld.2.2
            clear hHeld
            go_simp
            refine (HOF.out _ (HB2.out.trans (hBd.mono HB2.out.size))).mono ?_
            rintro e w3 ⟨X3, c3, rfl, hx3, hb3⟩
            have HX3 := hide hx3
            have HB3 := hide (hBd.trans (hb3.mono hBd.size))
            clear hx3 hb3 hBd
            go_wp2_with fail
            refine hK.out _ _ (HSS.out _ HB3.out) (fun hHeld => ?_)
            clear hK K
            try simp only [List.getElem_toArray, List.getElem_cons_succ, List.getElem_cons_zero, put_lit, List.set_cons_zero, List.set_cons_succ]
            refine wpAnyH_ready (rs := [3]) (by kernel_rfl) (by simp) ?_
            refine AllReadyH.cons rfl (fun K hK => ?_) AllReadyH.nil
            clear hHeld
            go_simp
            refine (HPR.out _ (HB2.out.trans (HB3.out.mono HB2.out.size))).mono ?_
            rintro e w4 ⟨Y4, d4, rfl, hy4, hb4⟩
            have HY4 := hide hy4
            have HX3 := hide (HX3.out.next hb4)
            have HB4 := hide (HB3.out.trans (hb4.mono HB3.out.size))
            clear hy4 hb4
            go_wp2_with fail
            refine hK.out _ _ (HSS.out _ HB4.out) (fun hHeld => ?_)
            clear hK K
            try simp only [List.getElem_toArray, List.getElem_cons_succ, List.getElem_cons_zero, put_lit, List.set_cons_zero, List.set_cons_succ]
            refine wpAnyH_ready (rs := [4]) (by kernel_rfl) (by simp) ?_
            refine AllReadyH.cons rfl (fun K hK => ?_) AllReadyH.nil
            clear hHeld
            go_simp
            refine (HL2.out _ X3 c3 Y4 d4 HX3.out HY4.out).mono ?_
            rintro e w5 ⟨Z5, z5, e5, rfl, hz5, hI5, hb5⟩
            have HI5 := hide hI5
            have HZ5 := hide hz5
            have HB5 := hide (HB4.out.trans (hb5.mono HB4.out.size))
            clear hI5 hz5 hb5
            go_wp2_with fail
            refine hK.out _ _ (HSS.out _ HB5.out) (fun hHeld => ?_)
            clear hK K
            try simp only [List.getElem_toArray, List.getElem_cons_succ, List.getElem_cons_zero, put_lit, List.set_cons_zero, List.set_cons_succ]
            refine wpAnyH_take (i := 5) (v := .tuple #[.slice Z5 z5 e5, .int .i64 M2, .int .i64 0]) rfl (by kernel_rfl) (by kernel_rfl) (by kernel_rfl) (fun _ _ _ h => h) (Or.inl ⟨by rfl, ?_⟩) hHeld ?_
            · (intro w' hSw; obtain ⟨y1, y2, y3⟩ := hSw; go_simp)
            try simp only [List.getElem_toArray, List.getElem_cons_succ, List.getElem_cons_zero, put_lit, List.set_cons_zero, List.set_cons_succ]
            refine wpAnyH_take (i := 6) (v := .slice Z5 z5 e5) rfl (by kernel_rfl) (by kernel_rfl) (by kernel_rfl) (fun _ _ _ h => h) (Or.inl ⟨by rfl, ?_⟩) hHeld ?_
            · (intro w' hSw; obtain ⟨y1, y2, y3⟩ := hSw; go_simp)
            try simp only [List.getElem_toArray, List.getElem_cons_succ, List.getElem_cons_zero, put_lit, List.set_cons_zero, List.set_cons_succ]
            refine wpAnyH_take (i := 7) (v := .int .i64 M2) rfl (by kernel_rfl) (by kernel_rfl) (by kernel_rfl) (fun _ _ _ h => h) (Or.inl ⟨by rfl, ?_⟩) hHeld ?_
            · (intro w' hSw; obtain ⟨y1, y2, y3⟩ := hSw; go_simp)
            try simp only [List.getElem_toArray, List.getElem_cons_succ, List.getElem_cons_zero, put_lit, List.set_cons_zero, List.set_cons_succ]
            refine wpAnyH_take (i := 8) (v := .int .i64 0) rfl (by kernel_rfl) (by kernel_rfl) (by kernel_rfl) (fun _ _ _ h => h) (Or.inl ⟨by rfl, ?_⟩) hHeld ?_
            · (intro w' hSw; obtain ⟨y1, y2, y3⟩ := hSw; go_simp)
            try simp only [List.getElem_toArray, List.getElem_cons_succ, List.getElem_cons_zero, put_lit, List.set_cons_zero, List.set_cons_succ]
            refine wpAnyH_take (i := 9) (v := .slice Z5 z5 e5) rfl (by kernel_rfl) (by kernel_rfl) (by kernel_rfl) (fun _ _ _ h => h) (Or.inl ⟨by rfl, ?_⟩) hHeld ?_
            · (intro w' hSw; obtain ⟨y1, y2, y3⟩ := hSw; go_simp)
            try simp only [List.getElem_toArray, List.getElem_cons_succ, List.getElem_cons_zero, put_lit, List.set_cons_zero, List.set_cons_succ]
            refine wpAnyH_take (i := 10) (v := .int .i64 M2) rfl (by kernel_rfl) (by kernel_rfl) (by kernel_rfl) (fun _ _ _ h => h) (Or.inl ⟨by rfl, ?_⟩) hHeld ?_
            · (intro w' hSw; obtain ⟨y1, y2, y3⟩ := hSw; go_simp)
            try simp only [List.getElem_toArray, List.getElem_cons_succ, List.getElem_cons_zero, put_lit, List.set_cons_zero, List.set_cons_succ]
            refine wpAnyH_take (i := 11) (v := .int .i64 0) rfl (by kernel_rfl) (by kernel_rfl) (by kernel_rfl) (fun _ _ _ h => h) (Or.inl ⟨by rfl, ?_⟩) hHeld ?_
            · (intro w' hSw; obtain ⟨y1, y2, y3⟩ := hSw; go_simp)
            try simp only [List.getElem_toArray, List.getElem_cons_succ, List.getElem_cons_zero, put_lit, List.set_cons_zero, List.set_cons_succ]
            refine wpAnyH_done (by kernel_rfl) ?_ _
            refine NoPanic.normal ?_
            go_wp2_with fail
            go_meet
            exact ⟨_, _, _, rfl, rfl, rfl, HZ5, HI5, HB5.out⟩
          case rest =>
            obtain ⟨Z3, z3, e3, rfl, rfl, rfl, HZ3, HI3, hb3⟩ := hcut
            obtain rfl : n = z2 := HGN.out.symm.trans HZ2.out
            obtain rfl : n = z3 := HGN2.out.symm.trans HZ3.out
            have HI2 := hide (HI2.out.next hb3)
            have HB3 := hide (HB2.out.trans (hb3.mono HB2.out.size))
            have qq3 := HQ.out _ HB3.out
            clear hb3
            go_wp2_with (first
              | (go_at_call 19; (with_reducible refine (HRV.out _ HB3.out).mono ?_); rintro e w4 ⟨rfl, hb4⟩; have HI2 := hide (HI2.out.next hb4); have HI3 := hide (HI3.out.next hb4); have HB4 := hide (HB3.out.trans (hb4.mono HB3.out.size)); have qq4 := HQ.out _ HB4.out; have qr4 := HR.out _ HB4.out; clear hb4))
            have HI24 := HI2
            have HI34 := HI3
            go_loopw [14, 58] (fun v14 v58 wr => ∃ (k c' : Nat) (XX : Option Addr), k ≤ n ∧ v58 = .int .i64 k ∧ v14 = .slice XX k c' ∧ k ≤ c' ∧ Hid (wr.ownsRow w4.heap.size 3 1 (.slice XX k c') k ((up (List.range k)).map (Value.int .i64))) ∧ Below w4.heap.size w4 wr) (fun _ v _ => n - (intOf v).toNat)
            case atStart => exact ⟨0, 0, none, Nat.zero_le _, rfl, rfl, Nat.le_refl _, hide (World.ownsRow_nil _ _ _ _), Below.refl _ _⟩
            case round =>
              obtain ⟨k, c', XX, hk, rfl, rfl, hkc, HO, hb⟩ := hrel
              have HB := hide hb
              obtain ⟨w5, rfl⟩ : ∃ w5 : World, w5 = wr := ⟨_, rfl⟩
              by_cases hlt : k < n
              · have hkn : (k : Int) < (n : Int) := by omega
                clear hb
                go_wp2_with (at_builtin; refine wpList_app1 (w0 := w5) _ _ 41 3 (.int .i64 0) 8 rfl rfl Try.underlying41 info_int rfl w4.heap.size (.slice XX k c') k _ (.int .i64 (k : Nat)) rfl rfl rfl ⟨_, rfl⟩ HO.out rfl (by omega) (by omega) (by have := HB.out.size; omega) ?_; intro g2 cg w6 hown1 hd1 hd2 hg1 hgl2 hgrow; have HOW1 := hide hown1; have HG := hide hgrow; clear hown1 hgrow)
                go_roundw
                case rel =>
                  refine ⟨k + 1, cg, some ⟨g2, 0, none⟩, by omega, by go_num, rfl, hd1, hide ?_, HB.out.grown HG.out HB.out.size (fun q hq => (own_lt HO.out q hq).1)⟩
                  have e9 : (up (List.range (k + 1))).map (Value.int .i64) = (up (List.range k)).map (Value.int .i64) ++ [Value.int .i64 (k : Int)] := by simp [up, List.range_succ]
                  rw [e9]; exact HOW1.out
                case measure => simp [intOf] <;> omega
              · obtain rfl : n = k := by omega
                have HB5 := hide (HB4.out.trans (hb.mono HB4.out.size))
                have HSC := hide (HSR.out w5 w4.heap.size XX c' HB5.out HB4.out.size HO.out)
                have HI2 := hide (HI2.out.next hb)
                have HI3 := hide (HI3.out.next hb)
                have HI2 := hide (HI2.out.more (Nat.le_refl _))
                have qq5 := HQ.out _ HB5.out
                have HNO := hide (fun g (hg : (Value.slice XX n c').ownBlock = some g) => (own_lt HO.out g hg).1)
                have HI2w := hide (fun w' (hb' : Below w4.heap.size w4 w') => HI24.out.next hb')
                have HI3w := hide (fun w' (hb' : Below w4.heap.size w4 w') => HI34.out.next hb')
                clear hb
                go_wp2_with (first
                  | (go_at_call 45; refine (HSC.out).mono ?_; rintro e w6 ⟨s, h1, h2, h3, rfl⟩; have H1 := hide h1; have HID := hide (ints_of_own h2); have HB46 := hide (HB.out.grown h3 HB.out.size (fun q hq => HNO.out q hq)); have HB6 := hide (HB4.out.trans (HB46.out.mono HB4.out.size)); have HI2 := hide (HI2w.out _ HB46.out); have HI3 := hide (HI3w.out _ HB46.out); have qq6 := HQ.out _ HB6.out; clear h1 h2 h3)
                  | ((with_reducible show wpList _ _ _ (⟨some 72, _, _, _, _, _⟩ :: _) _ _); refine wpList_callv1 44 #[.pointer (some ⟨w.heap.size, 0, none⟩)] _ _ _ _ rfl rfl rfl rfl goes_oworst ((HWD.out s H1.out _ XX c' HB6.out HID.out).mono ?_); rintro e w7 ⟨rfl, hb7⟩; have HI2 := hide (HI2.out.next hb7); have HI3 := hide (HI3.out.next hb7); have HB7 := hide (HB6.out.trans (hb7.mono HB6.out.size)); have qq7 := HQ.out _ HB7.out; have qr7 := HR.out _ HB7.out; clear hb7; refine ⟨_, rfl, ?_⟩)
                  | ((with_reducible show wpList _ _ _ (⟨some 78, _, _, _, _, _⟩ :: _) _ _); refine wpList_callv1 44 #[.pointer (some ⟨w.heap.size, 0, none⟩)] _ _ _ _ rfl rfl rfl rfl goes_oworst ((HWA.out _ Z2 e2 HB7.out HI2.out).mono ?_); rintro e w8 ⟨rfl, hb8⟩; have HI3 := hide (HI3.out.next hb8); have HB8 := hide (HB7.out.trans (hb8.mono HB7.out.size)); have qq8 := HQ.out _ HB8.out; have qr8 := HR.out _ HB8.out; clear hb8; refine ⟨_, rfl, ?_⟩)
                  | ((with_reducible show wpList _ _ _ (⟨some 112, _, _, _, _, _⟩ :: _) _ _); refine wpList_callv1 44 #[.pointer (some ⟨w.heap.size, 0, none⟩)] _ _ _ _ rfl rfl rfl rfl goes_oworst ((HWB.out _ Z3 e3 HB8.out HI3.out).mono ?_); rintro e w9 ⟨rfl, hb9⟩; have HI3 := hide (HI3.out.next hb9); have HB9 := hide (HB8.out.trans (hb9.mono HB8.out.size)); have qq9 := HQ.out _ HB9.out; have qr9 := HR.out _ HB9.out; clear hb9; refine ⟨_, rfl, ?_⟩)
                  | ((with_reducible show wpList _ _ _ (⟨some 130, _, _, _, _, _⟩ :: _) _ _); refine wpList_callv1g 47 #[.pointer (some ⟨w.heap.size + 1, 0, none⟩)] _ _ _ _ rfl (by kernel_rfl) rfl rfl goes_okeeps ((HKB.out _ Z3 e3 HB9.out HI3.out).mono ?_); rintro e w10 ⟨rfl, hb10⟩; have HB10 := hide (HB9.out.trans (hb10.mono HB9.out.size)); have qq10 := HQ.out _ HB10.out; have qr10 := HR.out _ HB10.out; clear hb10; refine ⟨_, rfl, ?_⟩)
                  | (go_at_call 28; (with_reducible refine (HLI.out _ HB10.out).mono ?_); rintro e w11 ⟨Y11, d11, rfl, hd11, hY11, hb11, _⟩; have HY11 := hide hY11; have HB11 := hide (HB10.out.trans (hb11.mono HB10.out.size)); have qq11 := HQ.out _ HB11.out; have qr11 := HR.out _ HB11.out; clear hY11 hb11)
                  | ((with_reducible show wpList _ _ _ (⟨some 137, _, _, _, _, _⟩ :: _) _ _); refine wpList_callv1 44 #[.pointer (some ⟨w.heap.size, 0, none⟩)] _ _ _ _ rfl rfl rfl rfl goes_oworst ((HWL.out _ Y11 d11 HB11.out HY11.out).mono ?_); rintro e w12 ⟨rfl, hb12⟩; have HB12 := hide (HB11.out.trans (hb12.mono HB11.out.size)); have qq12 := HQ.out _ HB12.out; have qr12 := HR.out _ HB12.out; clear hb12; refine ⟨_, rfl, ?_⟩)
                  | ((with_reducible show wpList _ _ _ (⟨some 145, _, _, _, _, _⟩ :: _) _ _); refine wpList_callv1g 47 #[.pointer (some ⟨w.heap.size + 1, 0, none⟩)] _ _ _ _ rfl (by kernel_rfl) rfl rfl goes_okeeps ((HKL.out _ HB12.out).mono ?_); rintro e w13 ⟨rfl, hb13⟩; have HB13 := hide (HB12.out.trans (hb13.mono HB12.out.size)); have qq13 := HQ.out _ HB13.out; have qr13 := HR.out _ HB13.out; clear hb13; refine ⟨_, rfl, ?_⟩)
                  | (go_at_call 20; (with_reducible refine (HAW.out _).mono ?_); rintro e w14 ⟨rfl, hb14⟩; have HB14 := hide (HB13.out.trans (hb14.mono HB13.out.size)); have qq14 := HQ.out _ HB14.out; have qr14 := HR.out _ HB14.out; clear hb14))
                go_ret
                exact ⟨by simp, HB01.out.trans (HB14.out.mono HB01.out.size)⟩
end Go.Proofs.Ytiadineakhcclaa

/-
  Arguments that came in, opened: slices of structs of ints (jobs, pieces).
-/
namespace Go.Proofs.Ytiadineakhcclaa
open Go.ChangeShapes Go.WideShapes Go.ChangeAt Go.RowKit Go.Deep
set_option linter.unusedVariables false
set_option linter.unusedSimpArgs false

section
variable {H : Type} {enc : TypeId × Value → H} {P : Program} {w : World} {base : Nat} {held : Bool}
theorem cells_ints {t e q : TypeId} {fs : Array Field} {k fuel len cap : Nat} {a : Option Addr} {x : DataW H × List MemPlace} (ht : P.underlying t = some (.slice e)) (he : P.underlying e = some (.struct fs)) (hC : P.cellsOf e = k) (hk : 0 < k)
    (hf : ∀ j, j < k → ∃ f, fs[j]? = some f ∧ f.offset = j ∧ f.type = q) (hq : P.underlying q = some (.int .i64)) (cq : P.cellsOf q = 1) (h : DataW.trod enc P w base (fun _ => true) held fuel t [.slice a len cap] = some x) :
    len ≤ cap ∧ cap ≤ 9223372036854775807 ∧ ∀ i, i < len → ∃ b o, a = some ⟨b, o, none⟩ ∧ ∀ j, j < k → ∃ n, w.cell? ⟨b, o + (i * k + j), none⟩ = some (.int .i64 n) := by
  rcases open_slice ht h with ⟨h0, _⟩ | ⟨a', len', cap', m, n, D, Pl, hcs, hb, hl, hm, hmm, hx, hi⟩
  · simp at h0
    obtain ⟨rfl, rfl, rfl⟩ := h0
    exact ⟨Nat.le_refl _, by omega, fun i hi => absurd hi (by omega)⟩
  · simp at hcs
    obtain ⟨rfl, rfl, rfl⟩ := hcs
    simp only [if_true] at hmm
    have hall : ∀ i, i < len → ∀ j, j < k → ∃ n, w.cell? (a'.add (i * k + j)) = some (.int .i64 n) := fun i hil j hj => by
      obtain ⟨cs', hc, ht'⟩ := hi i (by omega)
      rw [hC] at hc
      obtain ⟨ys, n', _, _, hlen, hyl, hfl⟩ := DataW.trod_struct he ht'
      obtain ⟨_, hcl, hat⟩ := World.cells?_some hc
      obtain ⟨f, hfj, hfo, hft⟩ := hf j hj
      have h1 := hfl j f hfj
      have hjs : j < fs.size := (Array.getElem?_eq_some_iff.1 hfj).1
      rw [hfo, hft, cq, List.drop_eq_getElem_cons (by omega), List.getElem?_eq_getElem (by omega)] at h1
      obtain ⟨z, hz, _, _⟩ := DataW.trod_int hq h1
      have hz1 : cs'[j]'(by omega) = .int .i64 z := by
        have : (cs'[j]'(by omega) :: cs'.drop (j + 1)).take 1 = [cs'[j]'(by omega)] := rfl
        rw [this] at hz
        injection hz
      refine ⟨z, ?_⟩
      rw [← Go.Deep.add_add, hat j hj, List.getElem?_eq_getElem (by omega), hz1]
    refine ⟨hl, hm, fun i hil => ?_⟩
    have h00 : ∃ v0, w.cell? (a'.add 0) = some v0 := by
      obtain ⟨z, hz⟩ := hall 0 (by omega) 0 hk
      rw [Nat.zero_mul] at hz
      exact ⟨_, hz⟩
    obtain ⟨z, hz⟩ := hall i hil 0 hk
    obtain ⟨b, o, rfl, _⟩ := add_cell hz h00
    refine ⟨b, o, rfl, fun j hj => ?_⟩
    obtain ⟨z, hz⟩ := hall i hil j hj
    rw [add_plain] at hz
    exact ⟨z, hz⟩

theorem jobsA_of {t e q : TypeId} {fs : Array Field} {fuel len cap : Nat} {a : Option Addr} {x : DataW H × List MemPlace} (ht : P.underlying t = some (.slice e)) (he : P.underlying e = some (.struct fs)) (hC : P.cellsOf e = 4)
    (hf : ∀ j, j < 4 → ∃ f, fs[j]? = some f ∧ f.offset = j ∧ f.type = q) (hq : P.underlying q = some (.int .i64)) (cq : P.cellsOf q = 1) (h : DataW.trod enc P w base (fun _ => true) held fuel t [.slice a len cap] = some x) :
    ∃ L : List J4, L.length = len ∧ len ≤ cap ∧ cap ≤ 9223372036854775807 ∧ JobsA w w.heap.size a L := by
  obtain ⟨h1, h2, h3⟩ := cells_ints ht he hC (by omega) hf hq cq h
  have h4 : ∀ i, i < len → ∃ j : J4, ∃ b o, a = some ⟨b, o, none⟩ ∧ b < w.heap.size ∧ w.cell? ⟨b, o + i * 4, none⟩ = some (.int .i64 j.t) ∧ w.cell? ⟨b, o + i * 4 + 1, none⟩ = some (.int .i64 j.r) ∧
      w.cell? ⟨b, o + i * 4 + 2, none⟩ = some (.int .i64 j.d) ∧ w.cell? ⟨b, o + i * 4 + 3, none⟩ = some (.int .i64 j.w) := fun i hi => by
    obtain ⟨b, o, e1, h5⟩ := h3 i hi
    obtain ⟨x0, y0⟩ := h5 0 (by omega)
    obtain ⟨x1, y1⟩ := h5 1 (by omega)
    obtain ⟨x2, y2⟩ := h5 2 (by omega)
    obtain ⟨x3, y3⟩ := h5 3 (by omega)
    rw [← Nat.add_assoc] at y1 y2 y3
    rw [Nat.add_zero] at y0
    exact ⟨⟨x0, x1, x2, x3⟩, b, o, e1, cell_lt y0, y0, y1, y2, y3⟩
  obtain ⟨f, hf2⟩ := Classical.axiomOfChoice (r := fun (i : Nat) (j : J4) => i < len → ∃ b o, a = some ⟨b, o, none⟩ ∧ b < w.heap.size ∧ w.cell? ⟨b, o + i * 4, none⟩ = some (.int .i64 j.t) ∧ w.cell? ⟨b, o + i * 4 + 1, none⟩ = some (.int .i64 j.r) ∧
      w.cell? ⟨b, o + i * 4 + 2, none⟩ = some (.int .i64 j.d) ∧ w.cell? ⟨b, o + i * 4 + 3, none⟩ = some (.int .i64 j.w)) (fun i => by
    by_cases hi : i < len
    · obtain ⟨j, hj⟩ := h4 i hi; exact ⟨j, fun _ => hj⟩
    · exact ⟨j0, fun h => absurd h hi⟩)
  refine ⟨(List.range len).map f, by simp, h1, h2, fun i hi => ?_⟩
  rw [List.length_map, List.length_range] at hi
  have e : ((List.range len).map f).getD i j0 = f i := by simp [List.getD_eq_getElem?_getD, hi]
  rw [e]
  exact hf2 i hi
theorem pcsA_of {t e q : TypeId} {fs : Array Field} {fuel len cap : Nat} {a : Option Addr} {x : DataW H × List MemPlace} (ht : P.underlying t = some (.slice e)) (he : P.underlying e = some (.struct fs)) (hC : P.cellsOf e = 3)
    (hf : ∀ j, j < 3 → ∃ f, fs[j]? = some f ∧ f.offset = j ∧ f.type = q) (hq : P.underlying q = some (.int .i64)) (cq : P.cellsOf q = 1) (h : DataW.trod enc P w base (fun _ => true) held fuel t [.slice a len cap] = some x) :
    ∃ L : List P3, L.length = len ∧ len ≤ cap ∧ cap ≤ 9223372036854775807 ∧ PcsA w w.heap.size a L := by
  obtain ⟨h1, h2, h3⟩ := cells_ints ht he hC (by omega) hf hq cq h
  have h4 : ∀ i, i < len → ∃ j : P3, ∃ b o, a = some ⟨b, o, none⟩ ∧ b < w.heap.size ∧ w.cell? ⟨b, o + i * 3, none⟩ = some (.int .i64 j.job) ∧ w.cell? ⟨b, o + i * 3 + 1, none⟩ = some (.int .i64 j.fr) ∧
      w.cell? ⟨b, o + i * 3 + 2, none⟩ = some (.int .i64 j.to) := fun i hi => by
    obtain ⟨b, o, e1, h5⟩ := h3 i hi
    obtain ⟨x0, y0⟩ := h5 0 (by omega)
    obtain ⟨x1, y1⟩ := h5 1 (by omega)
    obtain ⟨x2, y2⟩ := h5 2 (by omega)
    rw [← Nat.add_assoc] at y1 y2
    rw [Nat.add_zero] at y0
    exact ⟨⟨x0, x1, x2⟩, b, o, e1, cell_lt y0, y0, y1, y2⟩
  obtain ⟨f, hf2⟩ := Classical.axiomOfChoice (r := fun (i : Nat) (j : P3) => i < len → ∃ b o, a = some ⟨b, o, none⟩ ∧ b < w.heap.size ∧ w.cell? ⟨b, o + i * 3, none⟩ = some (.int .i64 j.job) ∧ w.cell? ⟨b, o + i * 3 + 1, none⟩ = some (.int .i64 j.fr) ∧
      w.cell? ⟨b, o + i * 3 + 2, none⟩ = some (.int .i64 j.to)) (fun i => by
    by_cases hi : i < len
    · obtain ⟨j, hj⟩ := h4 i hi; exact ⟨j, fun _ => hj⟩
    · exact ⟨p0, fun h => absurd h hi⟩)
  refine ⟨(List.range len).map f, by simp, h1, h2, fun i hi => ?_⟩
  rw [List.length_map, List.length_range] at hi
  have e : ((List.range len).map f).getD i p0 = f i := by simp [List.getD_eq_getElem?_getD, hi]
  rw [e]
  exact hf2 i hi
end
end Go.Proofs.Ytiadineakhcclaa

/-
  Arguments that came in, opened: slices of pairs.
-/
namespace Go.Proofs.Ytiadineakhcclaa
open Go.ChangeShapes Go.WideShapes Go.ChangeAt Go.RowKit Go.Deep
set_option linter.unusedVariables false
set_option linter.unusedSimpArgs false

section
variable {H : Type} {enc : TypeId × Value → H} {P : Program} {w : World} {base : Nat} {held : Bool}
theorem prsA_of {t e q : TypeId} {fuel len cap : Nat} {a : Option Addr} {x : DataW H × List MemPlace} (ht : P.underlying t = some (.slice e)) (he : P.underlying e = some (.array 2 q)) (hC : P.cellsOf e = 2)
    (hq : P.underlying q = some (.int .i64)) (cq : P.cellsOf q = 1) (h : DataW.trod enc P w base (fun _ => true) held fuel t [.slice a len cap] = some x) :
    ∃ l : List (Int × Int), l.length = len ∧ len ≤ cap ∧ cap ≤ 9223372036854775807 ∧ PrsA w w.heap.size a l := by
  have key : len ≤ cap ∧ cap ≤ 9223372036854775807 ∧ ∀ i, i < len → ∃ b o, a = some ⟨b, o, none⟩ ∧ ∀ j, j < 2 → ∃ n, w.cell? ⟨b, o + (i * 2 + j), none⟩ = some (.int .i64 n) := by
    rcases open_slice ht h with ⟨h0, _⟩ | ⟨a', len', cap', m, n, D, Pl, hcs, hb, hl, hm, hmm, hx, hi⟩
    · simp at h0
      obtain ⟨rfl, rfl, rfl⟩ := h0
      exact ⟨Nat.le_refl _, by omega, fun i hi => absurd hi (by omega)⟩
    · simp at hcs
      obtain ⟨rfl, rfl, rfl⟩ := hcs
      simp only [if_true] at hmm
      have hall : ∀ i, i < len → ∀ j, j < 2 → ∃ n, w.cell? (a'.add (i * 2 + j)) = some (.int .i64 n) := fun i hil j hj => by
        obtain ⟨cs', hc, ht'⟩ := hi i (by omega)
        rw [hC] at hc
        obtain ⟨ys, n', _, _, hlen, hyl, hfl⟩ := DataW.trod_array he ht'
        obtain ⟨_, hcl, hat⟩ := World.cells?_some hc
        have h1 := hfl j hj
        rw [cq, Nat.mul_one, List.drop_eq_getElem_cons (by omega), List.getElem?_eq_getElem (by omega)] at h1
        obtain ⟨z, hz, _, _⟩ := DataW.trod_int hq h1
        have hz1 : cs'[j]'(by omega) = .int .i64 z := by
          have : (cs'[j]'(by omega) :: cs'.drop (j + 1)).take 1 = [cs'[j]'(by omega)] := rfl
          rw [this] at hz
          injection hz
        refine ⟨z, ?_⟩
        rw [← Go.Deep.add_add, hat j hj, List.getElem?_eq_getElem (by omega), hz1]
      refine ⟨hl, hm, fun i hil => ?_⟩
      have h00 : ∃ v0, w.cell? (a'.add 0) = some v0 := by
        obtain ⟨z, hz⟩ := hall 0 (by omega) 0 (by omega)
        rw [Nat.zero_mul] at hz
        exact ⟨_, hz⟩
      obtain ⟨z, hz⟩ := hall i hil 0 (by omega)
      obtain ⟨b, o, rfl, _⟩ := add_cell hz h00
      refine ⟨b, o, rfl, fun j hj => ?_⟩
      obtain ⟨z, hz⟩ := hall i hil j hj
      rw [add_plain] at hz
      exact ⟨z, hz⟩
  obtain ⟨h1, h2, h3⟩ := key
  have h4 : ∀ i, i < len → ∃ j : Int × Int, ∃ b o, a = some ⟨b, o, none⟩ ∧ b < w.heap.size ∧ w.cell? ⟨b, o + i * 2, none⟩ = some (.int .i64 j.1) ∧ w.cell? ⟨b, o + i * 2 + 1, none⟩ = some (.int .i64 j.2) := fun i hi => by
    obtain ⟨b, o, e1, h5⟩ := h3 i hi
    obtain ⟨x0, y0⟩ := h5 0 (by omega)
    obtain ⟨x1, y1⟩ := h5 1 (by omega)
    rw [← Nat.add_assoc] at y1
    rw [Nat.add_zero] at y0
    exact ⟨(x0, x1), b, o, e1, cell_lt y0, y0, y1⟩
  obtain ⟨f, hf2⟩ := Classical.axiomOfChoice (r := fun (i : Nat) (j : Int × Int) => i < len → ∃ b o, a = some ⟨b, o, none⟩ ∧ b < w.heap.size ∧ w.cell? ⟨b, o + i * 2, none⟩ = some (.int .i64 j.1) ∧ w.cell? ⟨b, o + i * 2 + 1, none⟩ = some (.int .i64 j.2)) (fun i => by
    by_cases hi : i < len
    · obtain ⟨j, hj⟩ := h4 i hi; exact ⟨j, fun _ => hj⟩
    · exact ⟨(0, 0), fun h => absurd h hi⟩)
  refine ⟨(List.range len).map f, by simp, h1, h2, fun i hi => ?_⟩
  rw [List.length_map, List.length_range] at hi
  have e : ((List.range len).map f).getD i (0, 0) = f i := by simp [List.getD_eq_getElem?_getD, hi]
  rw [e]
  exact hf2 i hi
end
end Go.Proofs.Ytiadineakhcclaa
