/-
  Memory of pairs (two cells each); Befores; pairs.
-/
import Derived.Test.YtiadineakhcclaaDLeastP
import Derived.Test.YtiadineakhcclaaDValid
import Derived.Test.YtiadineakhcclaaEqual
namespace Go.Proofs.Ytiadineakhcclaa
open Go.RowKit Go.Deep
set_option linter.unusedVariables false
set_option linter.unusedSimpArgs false

def PrsA (w : World) (B : Nat) (A : Option Addr) (l : List (Int × Int)) : Prop :=
  ∀ i, i < l.length → ∃ b o, A = some ⟨b, o, none⟩ ∧ b < B ∧ w.cell? ⟨b, o + i * 2, none⟩ = some (.int .i64 (l.getD i (0, 0)).1) ∧ w.cell? ⟨b, o + i * 2 + 1, none⟩ = some (.int .i64 (l.getD i (0, 0)).2)
section
variable {w w' : World} {B B' : Nat} {A : Option Addr} {l : List (Int × Int)}
theorem PrsA.at_ {k : Nat} (h : PrsA w B A l) (hk : k < l.length) : ∃ b o x y, A = some ⟨b, o, none⟩ ∧ b < B ∧ w.cell? ⟨b, o + k * 2, none⟩ = some (.int .i64 x) ∧ w.cell? ⟨b, o + k * 2 + 1, none⟩ = some (.int .i64 y) ∧ Hid (l.getD k (0, 0) = (x, y)) :=
  let ⟨b, o, e, hb, h1, h2⟩ := h k hk
  ⟨b, o, _, _, e, hb, h1, h2, rfl⟩
theorem PrsA.keep (h : PrsA w B A l) (hk : ∀ p : Addr, p.block < B → w'.cell? p = w.cell? p) : PrsA w' B A l := fun i hi =>
  let ⟨b, o, e, hb, h1, h2⟩ := h i hi
  ⟨b, o, e, hb, (hk ⟨b, _, none⟩ hb).trans h1, (hk ⟨b, _, none⟩ hb).trans h2⟩
theorem PrsA.more (h : PrsA w B A l) (hB : B ≤ B') : PrsA w B' A l := fun i hi =>
  let ⟨b, o, e, hb, h1⟩ := h i hi
  ⟨b, o, e, by omega, h1⟩
theorem PrsA.below (h : PrsA w B A l) (hb : Below B w w') : PrsA w' B A l := h.keep fun _ hp => hb.cell hp
theorem PrsA.top (h : PrsA w B A l) : PrsA w w.heap.size A l := fun i hi =>
  let ⟨b, o, e, _, h1⟩ := h i hi
  ⟨b, o, e, cell_lt h1.1, h1⟩
theorem PrsA.next (h : PrsA w B A l) (hb : Below w.heap.size w w') : PrsA w' w'.heap.size A l := ((h.top).below hb).top
theorem PrsA.nil_ : PrsA w B A [] := fun i hi => absurd hi (by simp)
theorem PrsA.take (h : PrsA w B A l) (k : Nat) : PrsA w B A (l.take k) := fun i hi => by
  rw [List.length_take] at hi
  obtain ⟨b, o, e, hb, h1, h2⟩ := h i (by omega)
  have e2 : (l.take k).getD i (0, 0) = l.getD i (0, 0) := by rw [List.getD_eq_getElem?_getD, List.getD_eq_getElem?_getD, List.getElem?_take, if_pos (by omega)]
  rw [e2]
  exact ⟨b, o, e, hb, h1, h2⟩
end
def prOk (n : Nat) (p : Int × Int) : Bool := decide (0 ≤ p.1 ∧ p.1 < n ∧ 0 ≤ p.2 ∧ p.2 < n)
def prsOk (l : List (Int × Int)) (n : Nat) : Bool := l.all (prOk n)
theorem prsOk_take {l : List (Int × Int)} {n k : Nat} (hk : k < l.length) : prsOk (l.take (k + 1)) n = (prsOk (l.take k) n && prOk n (l.getD k (0, 0))) := by
  unfold prsOk
  rw [List.take_succ_eq_append_getElem hk, List.all_append, getD_cons_of (d := ((0 : Int), (0 : Int))) hk]
  simp
theorem prsOk_false {l : List (Int × Int)} {n k : Nat} (hk : k < l.length) (h : prOk n (l.getD k (0, 0)) = false) : prsOk l n = false := by
  unfold prsOk
  rw [List.all_eq_false]
  exact ⟨_, List.getElem_mem hk, by rw [getD_cons_of (d := ((0 : Int), (0 : Int))) hk, h]; decide⟩
def okBef (l : List (Int × Int)) (n : Nat) : Bool := prsOk l n && decide (l.length ≤ 16)
theorem okBef_false {l : List (Int × Int)} {n k : Nat} (hk : k < l.length) (h : prOk n (l.getD k (0, 0)) = false) : okBef l n = false := by rw [okBef, prsOk_false hk h]; rfl
set_option maxRecDepth 100000 in
set_option maxHeartbeats 1600000 in
theorem refBefores_any (A : Option Addr) (n c : Nat) (PA : Option Addr) (m pc : Nat) (P : List (Int × Int)) (w : World) (hlen : n ≤ 9223372036854775807) (hm : P.length = m) (hmm : m ≤ 9223372036854775807) (hP : PrsA w w.heap.size PA P) :
    Calls Try.prog 42 #[.slice A n c, .slice PA m pc] w fun e w' => e = .returned (.bool (okBef P n)) ∧ Below w.heap.size w w' := by
  have HM := hide hm
  have HP := hide hP
  clear hm hP
  go_enter Try.func42, Try.ntmps42
  go_wp2
  go_loopw [9] (fun v wr => ∃ k : Nat, k ≤ m ∧ v = .int .i64 k ∧ Hid (prsOk (P.take k) n = true) ∧ Below w.heap.size w wr) (fun v _ => m - (intOf v).toNat)
  case atStart => exact ⟨0, Nat.zero_le _, rfl, hide (by simp [prsOk]), Below.refl _ _⟩
  case round =>
    obtain ⟨k, hk, rfl, HO, hb⟩ := hrel
    have HB := hide hb
    by_cases hlt : k < m
    · obtain ⟨bj, oj, x, y, rfl, hbj, hc0, hc1, hx⟩ := (HP.out.next hb).at_ (k := k) (by rw [HM.out]; exact hlt)
      have hkn : (k : Int) < (m : Int) := by omega
      have HX := hide hx.out
      have HBA : Hid (∀ o, Below w.heap.size w (wr.alloc o)) := fun o => HB.out.alloc HB.out.size _
      clear hb hx
      by_cases hok : prOk n (x, y) = true
      · have HT : Hid (prsOk (P.take (k + 1)) n = true) := by show _ = _; rw [prsOk_take (by rw [HM.out]; exact hlt), HO.out, HX.out, hok]; rfl
        unfold prOk at hok
        rw [decide_eq_true_iff] at hok
        obtain ⟨h1, h2, h3, h4⟩ := hok
        simp only [] at h1 h2 h3 h4
        have d1 : decide (x < 0) = false := decide_eq_false (by omega)
        have d2 : decide ((n : Int) ≤ x) = false := decide_eq_false (by omega)
        have d3 : decide (y < 0) = false := decide_eq_false (by omega)
        have d4 : decide ((n : Int) ≤ y) = false := decide_eq_false (by omega)
        go_wp2
        go_roundw
        case rel => exact ⟨k + 1, by omega, by go_num, HT, HBA.out _⟩
        case measure => simp [intOf] <;> omega
      · have HF : Hid (okBef P n = false) := hide (okBef_false (by rw [HM.out]; exact hlt) (by rw [HX.out]; simpa using hok))
        unfold prOk at hok
        rw [decide_eq_true_iff] at hok
        simp only [] at hok
        by_cases h1 : x < 0
        · go_wp2
          go_ret
          exact ⟨by rw [HF.out]; rfl, HBA.out _⟩
        · by_cases h2 : (n : Int) ≤ x
          · go_wp2
            go_ret
            exact ⟨by rw [HF.out]; rfl, HBA.out _⟩
          · by_cases h3 : y < 0
            · go_wp2
              go_ret
              exact ⟨by rw [HF.out]; rfl, HBA.out _⟩
            · have h4 : (n : Int) ≤ y := by omega
              go_wp2
              go_ret
              exact ⟨by rw [HF.out]; rfl, HBA.out _⟩
    · obtain rfl : m = k := by omega
      have HR : Hid (okBef P n = decide (m ≤ 16)) := by
        have h := HO.out
        rw [List.take_of_length_le (by rw [HM.out]; exact Nat.le_refl _)] at h
        show _ = _; rw [okBef, h, HM.out]; rfl
      clear hb
      by_cases h16 : m ≤ 16
      · have h16b : (m : Int) ≤ 16 := by omega
        rw [decide_eq_true h16] at HR
        go_wp2
        go_ret
        exact ⟨by rw [HR.out]; simp [h16b], HB.out⟩
      · have h16b : ¬ (m : Int) ≤ 16 := by omega
        rw [decide_eq_false h16] at HR
        go_wp2
        go_ret
        exact ⟨by rw [HR.out]; simp [h16b], HB.out⟩

/-! The pairs that the statements hand over. -/
def prcells (l : List (Int × Int)) : List Value := l.flatMap fun p => [.int .i64 p.1, .int .i64 p.2]
theorem prcells_len : ∀ l : List (Int × Int), (prcells l).length = l.length * 2
  | [] => rfl
  | p :: l => by
    have := prcells_len l
    show ([_, _] ++ prcells l).length = _
    rw [List.length_append, this]; simp only [List.length_cons, List.length_nil]; omega
theorem prcells_at : ∀ (l : List (Int × Int)) (i : Nat), i < l.length → (prcells l)[i * 2]? = some (.int .i64 (l.getD i (0, 0)).1) ∧ (prcells l)[i * 2 + 1]? = some (.int .i64 (l.getD i (0, 0)).2)
  | [], i, h => absurd h (by simp)
  | p :: l, 0, _ => ⟨rfl, rfl⟩
  | p :: l, i + 1, h => by
    have := prcells_at l i (by simpa using h)
    have e : prcells (p :: l) = [.int .i64 p.1, .int .i64 p.2] ++ prcells l := rfl
    have g : (p :: l).getD (i + 1) ((0 : Int), (0 : Int)) = l.getD i (0, 0) := by simp
    rw [g, e]
    refine ⟨?_, ?_⟩
    · rw [List.getElem?_append_right (by simp; omega)]; rw [show (i + 1) * 2 - [Value.int .i64 p.1, .int .i64 p.2].length = i * 2 by simp; omega]; exact this.1
    · rw [List.getElem?_append_right (by simp; omega)]; rw [show (i + 1) * 2 + 1 - [Value.int .i64 p.1, .int .i64 p.2].length = i * 2 + 1 by simp; omega]; exact this.2
theorem prs_of_own {w : World} {base n : Nat} {e : TypeId} {A : Option Addr} {c : Nat} {l : List (Int × Int)} (h : w.ownsRow base e 2 (.slice A n c) n (prcells l)) : PrsA w w.heap.size A l := fun i hi => by
  have hn : n = l.length := by have := h.1; rw [prcells_len] at this; omega
  obtain ⟨g, cap, hv, hg, h1, h2, h3⟩ := own_formS h (by omega)
  injection hv with e1 _ e2
  subst e1; subst e2
  have hc := prcells_at l i hi
  refine ⟨g, 0, rfl, h3, ?_⟩
  rw [Nat.zero_add]
  exact ⟨own_cell h hc.1, own_cell h hc.2⟩
theorem prcells_one (l : List (Int × Int)) : ∀ u ∈ prcells l, u.oneCell' = true := by
  intro u hu
  obtain ⟨p, _, hp⟩ := List.mem_flatMap.1 hu
  simp at hp
  rcases hp with rfl | rfl <;> rfl
section
variable {PP : Program} {ops : Array Oper} {rest : List Oper} {o : Oper} {a : Act} {Q : Exit → Act → World → Prop}
theorem wpList_appPrs {w : World} (s x : Operand) (t e : TypeId) (z : Value) (bytes : Nat) (ho : o.op = .call { callee := .builtin .append, args := #[s, x], argTypes := #[t, t] }) (hgd : o.guard = none)
    (ht : PP.underlying t = some (.slice e)) (hinfo : (PP.info? e).map (fun i => (i.zero, i.size, i.bytes)) = some (some z, 2, bytes)) (hz : z.cells.size = 2)
    (base : Nat) (v : Value) (n : Nat) (xs : List Value) (hs : a.eval s = v) (ad : Addr) (m c B : Nat) (l : List (Int × Int)) (hx : a.eval x = .slice (some ad) m c) (hm : l.length = m) (hI : PrsA w B (some ad) l)
    (hown : w.ownsRow base e 2 v n xs) (hbytes : (n + m) * bytes ≤ 140737488355328) (hn63 : n + m ≤ 9223372036854775807) (hbase : base ≤ w.heap.size)
    (h : ∀ A' c' w', w'.ownsRow base e 2 (.slice A' (n + m) c') (n + m) (xs ++ prcells l) → n + m ≤ c' → w.grownBy w' v.ownBlock →
      wpList PP ops Q rest (a.put o.dst (.slice A' (n + m) c')) w') : wpList PP ops Q (o :: rest) a w := by
  subst hm
  obtain ⟨i, hi, hz0, hz1, hz2⟩ := info_parts hinfo
  refine wpList_plain hgd fun K hK => ?_
  have hadd : ∀ (q : Addr) (b o j : Nat), q = ⟨b, o, none⟩ → q.add j = ⟨b, o + j, none⟩ := fun q b o j e => by
    subst e
    unfold Addr.add
    split
    · rename_i h0; subst h0; rfl
    · rfl
  have hnews : ∀ (j : Nat) (u : Value), (prcells l)[j]? = some u → w.cell? (ad.add j) = some u := by
    intro j u hj
    have hjl : j < (prcells l).length := by
      rcases Nat.lt_or_ge j (prcells l).length with h1 | h1
      · exact h1
      · rw [List.getElem?_eq_none h1] at hj; cases hj
    rw [prcells_len] at hjl
    obtain ⟨b, off, e1, _, hc, hc2⟩ := hI (j / 2) (by omega)
    injection e1 with e1
    rw [hadd ad b off j e1]
    have hat := prcells_at l (j / 2) (by omega)
    rcases Nat.mod_two_eq_zero_or_one j with h2 | h2
    · have e9 : j = j / 2 * 2 := by omega
      rw [show off + j = off + j / 2 * 2 by omega, hc]
      rw [e9, hat.1] at hj
      exact hj
    · have e9 : j = j / 2 * 2 + 1 := by omega
      rw [show off + j = off + j / 2 * 2 + 1 by omega, hc2]
      rw [e9, hat.2] at hj
      exact hj
  obtain ⟨v', w', hr, h2, h3, h4, h5⟩ := run_append_own_at (P := PP) w base t o.type e i z 2 bytes ht hi hz0 hz1 hz2 hz (by decide) v n xs hown ad l.length c (prcells l) (prcells_len l) hnews (prcells_one l)
    (by unfold maxLen; omega) hbytes hbase
  unfold Oper.wp execOp
  simp only [ho, resolve, invoke, builtin, Sem.run_bind, Sem.run_pure, Result.andThen_ok, List.map_toArray, List.map_cons, List.map_nil, hs, hx, hr]
  refine hK _ _ ?_
  rcases h2.2 with ⟨hv, h0⟩ | ⟨g, cap, cur, hv, hg, hh, hc, hmx, hs2, ht2⟩
  · subst hv
    have e0 : n + l.length = 0 := h0
    have := h none 0 w' (by rw [e0]; rw [e0] at h2; exact h2) (by omega) h3
    rw [e0] at this
    exact this
  · subst hv
    exact h _ cap w' h2 hc h3
end
theorem info_pr : (Try.prog.info? 64).map (fun i => (i.zero, i.size, i.bytes)) = some (some (.agg #[.int .i64 0, .int .i64 0]), 2, 16) := by kernel_rfl
set_option maxHeartbeats 800000 in
theorem clonePr_any (A : Option Addr) (n c B : Nat) (l : List (Int × Int)) (w : World) (hn : l.length = n) (hlen : n * 16 ≤ 140737488355328) (hA : PrsA w B A l) :
    Calls Try.prog 68 #[.slice A n c] w fun e w' => ∃ A' c', e = .returned (.slice A' n c') ∧ PrsA w' w'.heap.size A' l ∧ Below w.heap.size w w' := by
  have hq := fun (w : World) (a : Option Addr) (n c n' c' : Nat) => Lib.run_eql_slice_nil (P := Try.prog) w 72 _ a n c n' c' Try.underlying72
  cases A with
  | none =>
    have h0 : l = [] := by
      cases l with
      | nil => rfl
      | cons x l => obtain ⟨b, o, e, _⟩ := hA 0 (by simp); cases e
    subst h0
    subst hn
    go_enter Try.func68, Try.ntmps68
    go_wp2
    go_ret
    exact ⟨none, 0, rfl, PrsA.nil_, Below.refl _ _⟩
  | some ad =>
    have hI : PrsA (w.alloc (.cells #[] 64)) w.heap.size (some ad) l := (hA.top).keep fun p hp => World.cell?_alloc_lt _ _ _ hp
    have HN := hide hn
    clear hn
    go_enter Try.func68, Try.ntmps68
    have hown : (w.alloc (.cells #[] 64)).ownsRow w.heap.size 64 2 (.slice (some ⟨w.heap.size, 0, none⟩) 0 0) 0 [] :=
      ⟨rfl, .inr ⟨w.heap.size, 0, #[], rfl, Nat.le_refl _, alloc_new _ _ _ rfl, Nat.le_refl _, by decide, rfl, rfl⟩⟩
    have HO := hide hown
    clear hown
    go_wp2_with ((at_builtin); refine wpList_appPrs _ _ 72 64 (.agg #[.int .i64 0, .int .i64 0]) 16 rfl rfl Try.underlying72 info_pr rfl w.heap.size (.slice (some ⟨w.heap.size, 0, none⟩) 0 0) 0 [] rfl ad n c w.heap.size l rfl HN.out hI HO.out (by omega) (by omega) (by simp) ?_; intro A' c' w1 hown1 hc1 hgrow; have HOW := hide hown1; have HG := hide hgrow; clear hown1 hgrow)
    go_ret
    refine ⟨A', c', ?_, prs_of_own (by simpa using HOW.out), ?_⟩
    · rfl
    · exact ((Below.refl _ _).alloc (Nat.le_refl _) _).grown HG.out (by simp) (fun g hg => by simp [Value.ownBlock] at hg; omega)
set_option maxHeartbeats 800000 in
theorem pairs_any (A : Option Addr) (n c : Nat) (l : List (Int × Int)) (w : World) (hn : l.length = n) (hc : n ≤ c) (hlen : n ≤ 9223372036854775807) (hA : PrsA w w.heap.size A l) :
    Calls Try.prog 41 #[.slice A n c] w fun e w' => ∃ A' c', e = .returned (.slice A' (l.take 18).length c') ∧ PrsA w' w'.heap.size A' (l.take 18) ∧ Below w.heap.size w w' := by
  have hm : (l.take 18).length = min n 18 := by rw [List.length_take, hn, Nat.min_comm]
  generalize hk : (l.take 18).length = k
  have HC := hide (clonePr_any A k c w.heap.size (l.take 18) w hk (by omega) (hA.take 18))
  have hkm : k = min n 18 := by omega
  clear hn hm hk
  rcases Nat.lt_or_ge 18 n with h7 | h7
  · obtain rfl : k = 18 := by omega
    clear hkm
    go_enter Try.func41, Try.ntmps41
    go_wp2_with (go_at_call 68; refine (HC.out).mono ?_; rintro e w' ⟨A', c', rfl, h1, h2⟩; have H1 := hide h1; have H2 := hide h2; clear h1 h2)
    go_ret
    exact ⟨A', c', rfl, H1.out, H2.out⟩
  · obtain rfl : n = k := by omega
    clear hkm
    go_enter Try.func41, Try.ntmps41
    go_wp2_with (go_at_call 68; refine (HC.out).mono ?_; rintro e w' ⟨A', c', rfl, h1, h2⟩; have H1 := hide h1; have H2 := hide h2; clear h1 h2)
    go_ret
    exact ⟨A', c', rfl, H1.out, H2.out⟩
end Go.Proofs.Ytiadineakhcclaa
