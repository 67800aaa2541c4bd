/-
  swap: wishes.tally: how often people get things, over all orders that a rule turns into outcomes. The rule is a variable.
-/
import Derived.Test.YtilnbiaabhdfgaaOrders
import Derived.Test.YtilnbiaabhdfgaaBase
import Derived.Deep.RegionLaw
namespace Go.Proofs.Ytilnbiaabhdfgaa
open Go.RowKit
set_option linter.unusedVariables false
set_option linter.unusedSimpArgs false

/-- What is known of the rule: it turns every order into a row of numbers below n, in new memory, wherever the memory below B stands as it did. -/
structure RuleOk (rid : FuncId) (first cap : Array Value) (n : Nat) (wB : World) (f : List Nat → List Nat) : Prop where
  goes : Goes Try.prog rid
  call : ∀ w', (∀ k, k < wB.heap.size → w'.heap[k]? = wB.heap[k]?) → wB.heap.size ≤ w'.heap.size → ∀ A c l, Ord l n → IntsA w' w'.heap.size A (up l) → n ≤ c → Calls Try.prog rid ((first ++ #[.slice A n c]) ++ cap) w' (OneRow n (f l) w')
  ok : ∀ l, Ord l n → (f l).length = n ∧ ∀ i, i < n → (f l).getD i 0 < n

/-- One order more: who gets what is counted. -/
def tallyStep (n : Nat) (f : List Nat → List Nat) (s : Nat → Nat → Nat) (l : List Nat) : Bool × (Nat → Nat → Nat) := (true, fun i g => s i g + if i < n ∧ (f l).getD i 0 = g then 1 else 0)

/-- The counts lie in the rows ib 0, ib 1, ..; all else below B0 is as it was in w0. -/
def TInv (n B0 : Nat) (w0 : World) (ib : Nat → Nat) (F : Nat → Prop) (s : Nat → Nat → Nat) (w : World) : Prop :=
  (∀ k, F k ↔ ∃ i, i < n ∧ k = ib i) ∧ (∀ k, k < B0 → (∀ i, i < n → k ≠ ib i) → w.heap[k]? = w0.heap[k]?) ∧ B0 ≤ w.heap.size ∧ ∀ i, i < n → w.rowIs (ib i) 3 n (fun g => .int .i64 (wrap64 (s i g)))

/-- How the memory stands when the orders begin: the rule's variable (block rb), the table's (block ob), the row of rows (block xb). -/
structure TMem (n B0 : Nat) (w0 : World) (ib : Nat → Nat) (rid : FuncId) (first cap : Array Value) (rb ob xb c : Nat) : Prop where
  rule : w0.heap[rb]? = some (.cells #[.func (.func rid) first cap] 40 (0, 0))
  out : w0.heap[ob]? = some (.cells #[.slice (some ⟨xb, 0, none⟩) n c] 22 (0, 0))
  rows : ∀ i, i < n → w0.cell? ⟨xb, i, none⟩ = some (.slice (some ⟨ib i, 0, none⟩) n n)
  nc : n ≤ c
  lt : rb < B0 ∧ ob < B0 ∧ xb < B0 ∧ ∀ i, i < n → ib i < B0
  ne : ∀ i, i < n → ib i ≠ rb ∧ ib i ≠ ob ∧ ib i ≠ xb
  inj : ∀ i j, i < n → j < n → ib i = ib j → i = j

section
variable {n B0 : Nat} {w0 : World} {ib : Nat → Nat} {F : Nat → Prop} {s : Nat → Nat → Nat} {w w' : World}
theorem TInv.stab (h : TInv n B0 w0 ib F s w) (hib : ∀ i, i < n → ib i < B0) (hk : ∀ k, F k ∨ k < B0 → w'.heap[k]? = w.heap[k]?) (hs : w.heap.size ≤ w'.heap.size) : TInv n B0 w0 ib F s w' :=
  ⟨h.1, fun k hkB hne => (hk k (.inr hkB)).trans (h.2.1 k hkB hne), Nat.le_trans h.2.2.1 hs, fun i hi => (h.2.2.2 i hi).of_block (hk _ (.inr (hib i hi)))⟩
theorem TInv.next (h : TInv n B0 w0 ib F s w) (hib : ∀ i, i < n → ib i < B0) (hb : Below w.heap.size w w') : TInv n B0 w0 ib F s w' :=
  h.stab hib (fun k hk => hb.block k (by
    rcases hk with hk | hk
    · obtain ⟨i, hi, rfl⟩ := (h.1 k).1 hk
      have := hib i hi
      have := h.2.2.1
      omega
    · have := h.2.2.1; omega)) hb.size
/-- One count more. -/
theorem TInv.bump (h : TInv n B0 w0 ib F s w) (hib : ∀ i, i < n → ib i < B0) (hinj : ∀ i j, i < n → j < n → ib i = ib j → i = j) {i g : Nat} (hi : i < n) :
    TInv n B0 w0 ib F (fun i' g' => s i' g' + if i' = i ∧ g' = g then 1 else 0) (w.setCell ⟨ib i, g, none⟩ (.int .i64 (wrap64 ((s i g + 1 : Nat) : Int)))) := by
  refine ⟨h.1, fun k hkB hne => (blk_far _ (hne i hi)).trans (h.2.1 k hkB hne), by simpa [World.setCell] using h.2.2.1, fun j hj => ?_⟩
  by_cases e : j = i
  · subst e
    refine ((h.2.2.2 j hj).set g _).congr (fun g' _ => ?_)
    by_cases e2 : g' = g
    · subst e2; simp
    · simp [e2]
  · refine ((h.2.2.2 j hj).setOther (by show ib j ≠ ib i; exact fun e2 => e (hinj j i hj hi e2)) _).congr (fun g' _ => ?_)
    simp [e]
end

theorem wrap_wrap_one (x : Nat) : wrap64 (wrap64 (x : Int) + 1) = wrap64 ((x + 1 : Nat) : Int) := by unfold wrap64; omega
theorem wrap_bd (x : Int) : -9223372036854775808 ≤ wrap64 x ∧ wrap64 x ≤ 9223372036854775807 := by unfold wrap64; omega

set_option maxRecDepth 100000 in
set_option maxHeartbeats 1600000 in
theorem tally1_any {n B0 : Nat} {w0 wB : World} {ib : Nat → Nat} {rid : FuncId} {first cap : Array Value} {rb ob xb c : Nat} {f : List Nat → List Nat} (hn : n ≤ 60) (hT : TMem n B0 w0 ib rid first cap rb ob xb c)
    (hR : RuleOk rid first cap n wB f) (hwB : ∀ k, k < wB.heap.size → w0.heap[k]? = wB.heap[k]?) (hBB : wB.heap.size ≤ B0) (hibB : ∀ i, i < n → wB.heap.size ≤ ib i)
    (F : Nat → Prop) (s : Nat → Nat → Nat) (w : World) (A : Option Addr) (c' : Nat) (l : List Nat) (hl : Ord l n) (hi : TInv n B0 w0 ib F s w) (hA : IntsA w w.heap.size A (up l)) (hc : n ≤ c') :
    Calls Try.prog 83 (#[.slice A n c'] ++ #[.pointer (some ⟨rb, 0, none⟩), .pointer (some ⟨ob, 0, none⟩)]) w fun e w' =>
      ∃ F', e = .returned (.bool (tallyStep n f s l).1) ∧ TInv n B0 w0 ib F' (tallyStep n f s l).2 w' ∧ (∀ k, F' k → F k ∨ w.heap.size ≤ k) ∧ (∀ k, F' k → k < w'.heap.size) ∧ Only F w w' := by
  have hlt := hT.lt
  have hrb : w.heap[rb]? = _ := (hi.2.1 rb hlt.1 (fun i hi' e => (hT.ne i hi').1 e.symm)).trans hT.rule
  have q0 := blk_cell hrb 0
  simp only [List.getElem?_toArray, List.getElem?_cons_zero] at q0
  have HC := hide (hR.call w (fun k hk => (hi.2.1 k (by omega) (fun i hi' e => by have := hibB i hi'; omega)).trans (hwB k hk)) (by have := hi.2.2.1; omega) A c' l hl hA hc)
  have hgo := hR.goes
  have hok := hR.ok l hl
  have HI := hide hi
  have HT := hide hT
  have HOK := hide hok
  have HLT := hide hlt
  clear hi hT hR hok hA hwB hlt hrb
  simp only [List.append_toArray, List.cons_append, List.nil_append]
  go_enter Try.func83, Try.ntmps83
  go_wp2_with ((with_reducible show wpList _ _ _ (⟨some 9, _, _, _, _, _⟩ :: _) _ _); refine wpList_callf1 rid first cap _ _ _ _ rfl rfl rfl rfl hgo ((HC.out).mono ?_); rintro e w1 ⟨O, co, rfl, h1, h2, h3⟩; refine ⟨_, rfl, ?_⟩; have H1 := hide h1; have H2 := hide h2; have H3 := hide h3; clear h1 h2 h3)
  have hi1 := HI.out.next (fun i hi => HLT.out.2.2.2 i hi) H2.out
  have hon : Only F w w1 := Only.of_below H2.out
  have hOff : ∀ i, i < n → (Value.slice O n co).ownBlock ≠ some (ib i) := fun i hi e => by
    have := H3.out _ e
    have := HLT.out.2.2.2 i hi
    have := HI.out.2.2.1
    omega
  have HOFF := hide hOff
  clear hOff
  go_loopw [11] (fun i wr => ∃ (j : Nat) (s1 : Nat → Nat → Nat), j ≤ n ∧ i = .int .i64 j ∧ TInv n B0 w0 ib F s1 wr ∧ Only F w wr ∧ IntsA wr wr.heap.size O (up (f l)) ∧ Hid (∀ i g, s1 i g = s i g + if i < j ∧ (f l).getD i 0 = g then 1 else 0)) (fun i _ => n - (intOf i).toNat)
  case atStart => exact ⟨0, s, Nat.zero_le _, rfl, hi1, hon, H1.out, fun i g => by simp⟩
  case round =>
    clear hi1 hon
    obtain ⟨j, s1, hj, rfl, hi1, hon, hO, HS⟩ := hrel
    by_cases hlt : j < n
    · obtain ⟨b, o, x, rfl, hb, hc1, hx⟩ := hO.at_ (k := j) (by rw [up_length, HOK.out.1]; exact hlt)
      have hx' := hx.out
      rw [up_getD] at hx'
      have hgn := HOK.out.2 j hlt
      generalize hg : (f l).getD j 0 = g at hx' hgn
      have HGG := hide hg
      subst hx'
      have hoff : b ≠ ib j := fun e => HOFF.out j hlt (by rw [← e]; rfl)
      have hlt' := HLT.out
      have hib := hlt'.2.2.2 j hlt
      have hob : wr.heap[ob]? = _ := (hi1.2.1 ob hlt'.2.1 (fun i hi' e => (HT.out.ne i hi').2.1 e.symm)).trans HT.out.out
      have o0 := blk_cell hob 0
      simp only [List.getElem?_toArray, List.getElem?_cons_zero] at o0
      have hxc : wr.cell? ⟨xb, j, none⟩ = some (.slice (some ⟨ib j, 0, none⟩) n n) := (World.cell?_of_block (w := w0) (a := ⟨xb, j, none⟩) (hi1.2.1 xb hlt'.2.2.1 (fun i hi' e => (HT.out.ne i hi').2.2 e.symm))).trans (HT.out.rows j hlt)
      have hrow := hi1.2.2.2 j hlt
      have hcc := hrow.cell hgn
      have hfz := hrow.frozen g
      have hnc := HT.out.nc
      have hwb := wrap_bd (s1 j g : Nat)
      have hw1 := wrap_wrap_one (s1 j g)
      have hbump := hi1.bump (fun i hi => hlt'.2.2.2 i hi) HT.out.inj (g := g) hlt
      have HBU := hide hbump
      obtain ⟨y, hy⟩ : ∃ y, y = wrap64 ((s1 j g : Nat) : Int) := ⟨_, rfl⟩
      rw [← hy] at hcc hw1 hwb
      have HY := hide hy
      have HW1 := hide hw1
      obtain ⟨bj, hbj⟩ : ∃ bj, bj = ib j := ⟨_, rfl⟩
      rw [← hbj] at hxc hcc hfz hoff
      have HBJ := hide hbj
      clear hx hg hrow hob hy hw1 hbump hbj hib
      go_wp2
      go_roundw
      case rel =>
        refine ⟨j + 1, (fun i' g' => s1 i' g' + if i' = j ∧ g' = g then 1 else 0), by omega, by go_num, ?_, hon.setCell (.inl ((HI.out.1 bj).2 ⟨j, hlt, HBJ.out⟩)) _, ?_, fun i g' => ?_⟩
        · rw [HW1.out, HBJ.out]; exact HBU.out
        · refine hO.keepA fun b2 o2 e => ?_
          injection e with e
          injection e with e3 e4 _
          subst e3
          exact ⟨by simpa [World.setCell] using hb, blk_far _ (by omega)⟩
        · show _ = _
          dsimp only
          rw [HS.out i g']
          by_cases e : i = j
          · subst e
            rw [HGG.out]
            by_cases e2 : g' = g
            · subst e2; simp
            · have e3 : ¬ g = g' := fun h => e2 h.symm
              simp [e2, e3]
          · simp only [e, false_and, if_false, Nat.add_zero, show i < j + 1 ↔ i < j from by omega]
      case measure => simp [intOf] <;> omega
    · obtain rfl : n = j := by omega
      go_wp2
      go_ret
      have e1 : s1 = (tallyStep n f s l).2 := by
        funext i g
        exact HS.out i g
      rw [e1] at hi1
      refine ⟨F, rfl, hi1, fun k hk => .inl hk, fun k hk => ?_, hon⟩
      obtain ⟨i, hi, rfl⟩ := (hi1.1 k).1 hk
      have := HLT.out.2.2.2 i hi
      have := hi1.2.2.1
      omega

/-- The whole count. -/
def tallyF (n : Nat) (f : List Nat → List Nat) (ls : List (List Nat)) (s : Nat → Nat → Nat) : Nat → Nat → Nat := ls.foldl (fun s l => (tallyStep n f s l).2) s
def tallyN (n : Nat) (f : List Nat → List Nat) : List (List Nat) := (List.range n).map fun i => (List.range n).map fun g => tallyF n f (ordsN n) (fun _ _ => 0) i g
theorem runL_tally (n : Nat) (f : List Nat → List Nat) (ls : List (List Nat)) (s : Nat → Nat → Nat) : (runL (tallyStep n f) ls s).2 = tallyF n f ls s := by
  induction ls generalizing s with
  | nil => rfl
  | cons l ls ih =>
    have : (tallyStep n f s l).1 = true := rfl
    simp only [runL, this, if_true, tallyF, List.foldl_cons]
    exact ih _
theorem tallyF_le (n : Nat) (f : List Nat → List Nat) (ls : List (List Nat)) (s : Nat → Nat → Nat) (i g : Nat) : tallyF n f ls s i g ≤ s i g + ls.length := by
  induction ls generalizing s with
  | nil => simp [tallyF]
  | cons l ls ih =>
    have := ih ((tallyStep n f s l).2)
    simp only [tallyF, List.foldl_cons, List.length_cons] at this ⊢
    have h2 : (tallyStep n f s l).2 i g ≤ s i g + 1 := by simp only [tallyStep]; split <;> omega
    omega
theorem ords_len : ∀ n, n ≤ 5 → (ordsN n).length ≤ 120 := by decide +kernel

/-- A table of n rows comes back. -/
def TableRes (n : Nat) (T : List (List Nat)) (w : World) (e : Ending) (w' : World) : Prop :=
  ∃ X c, e = .returned (.slice X n c) ∧ n ≤ c ∧ RowsA w' w'.heap.size X (upp T) ∧ Below w.heap.size w w'

/-- The rows that have been made: k of them, all noughts. -/
structure TBuild (w wr : World) (rid : FuncId) (first cap : Array Value) (n k : Nat) (ib : Nat → Nat) (X : Option Addr) (c : Nat) : Prop where
  rule : wr.heap[w.heap.size]? = some (.cells #[.func (.func rid) first cap] 40 (0, 0))
  out : wr.heap[w.heap.size + 1]? = some (.cells #[.slice X k c] 22 (0, 0))
  own : wr.ownsRow (w.heap.size + 2) 23 1 (.slice X k c) k ((List.range k).map fun i => Value.slice (some ⟨ib i, 0, none⟩) n n)
  rows : ∀ i, i < k → wr.rowIs (ib i) 3 n (fun _ => .int .i64 0)
  ne : ∀ i, i < k → w.heap.size + 2 ≤ ib i ∧ (Value.slice X k c).ownBlock ≠ some (ib i)
  inj : ∀ i j, i < k → j < k → ib i = ib j → i = j
  bel : Below w.heap.size w wr

theorem TBuild.step {w wr w1 : World} {rid : FuncId} {first cap : Array Value} {n k c g cg : Nat} {ib : Nat → Nat} {X : Option Addr} (h : TBuild w wr rid first cap n k ib X c) (o : Obj)
    (hown : w1.ownsRow (w.heap.size + 2) 23 1 (.slice (some ⟨g, 0, none⟩) (k + 1) cg) (k + 1) (((List.range k).map fun i => Value.slice (some ⟨ib i, 0, none⟩) n n) ++ [.slice (some ⟨wr.heap.size, 0, none⟩) n n]))
    (hg : (Value.slice X k c).ownBlock = some g ∨ (wr.alloc (.cells (madeCells #[.int .i64 0] n) 3)).drew.heap.size ≤ g) (hgr : (wr.alloc (.cells (madeCells #[.int .i64 0] n) 3)).drew.grownBy w1 (Value.slice X k c).ownBlock) :
    TBuild w (w1.setCell ⟨w.heap.size + 1, 0, none⟩ (.slice (some ⟨g, 0, none⟩) (k + 1) cg)) rid first cap n (k + 1) (fun i => if i = k then wr.heap.size else ib i) (some ⟨g, 0, none⟩) cg := by
  have hs := h.bel.size
  have hso : w.heap.size + 1 < wr.heap.size := lt_of_block h.out
  have hsa : (wr.alloc (.cells (madeCells #[.int .i64 0] n) 3)).drew.heap.size = wr.heap.size + 1 := by simp
  rw [hsa] at hg
  have ob : ∀ q, (Value.slice X k c).ownBlock = some q → w.heap.size + 2 ≤ q ∧ q < wr.heap.size := fun q hq => own_lt h.own q hq
  have hg2 : w.heap.size + 2 ≤ g := by
    rcases hg with hg | hg
    · exact (ob g hg).1
    · omega
  have keep : ∀ q, q < wr.heap.size + 1 → (Value.slice X k c).ownBlock ≠ some q → q ≠ w.heap.size + 1 → (w1.setCell ⟨w.heap.size + 1, 0, none⟩ (.slice (some ⟨g, 0, none⟩) (k + 1) cg)).heap[q]? = (wr.alloc (.cells (madeCells #[.int .i64 0] n) 3)).heap[q]? := fun q h1 h2 h3 =>
    (blk_far _ h3).trans (hgr.block q (by rw [hsa]; exact h1) (fun e => h2 e.symm))
  have low : ∀ q, q < w.heap.size + 2 → (Value.slice X k c).ownBlock ≠ some q := fun q hq e => by have := (ob q e).1; omega
  have hnew := World.rowIs_made wr (.int .i64 0) n 3
  have hnn : (Value.slice X k c).ownBlock ≠ some wr.heap.size := fun e => by have := (ob _ e).2; omega
  have ibl : ∀ i, i < k → ib i < wr.heap.size := fun i hi => (h.rows i hi).lt
  refine ⟨?_, ?_, ?_, fun i hi => ?_, fun i hi => ?_, fun i j hi hj e => ?_, ?_⟩
  · exact (keep _ (by omega) (low _ (by omega)) (by omega)).trans (alloc_old _ _ _ (by omega) h.rule)
  · exact blk_set ((hgr.block (w.heap.size + 1) (by rw [hsa]; omega) (fun e => low _ (by omega) e.symm)).trans (alloc_old wr _ _ (by omega) h.out)) 0 _
  · have e : ((List.range (k + 1)).map fun i => Value.slice (some ⟨if i = k then wr.heap.size else ib i, 0, none⟩) n n) = ((List.range k).map fun i => Value.slice (some ⟨ib i, 0, none⟩) n n) ++ [.slice (some ⟨wr.heap.size, 0, none⟩) n n] := by
      rw [List.range_succ, List.map_append]
      congr 1
      · refine List.map_congr_left fun i hi => ?_
        have : i ≠ k := by have := List.mem_range.1 hi; omega
        rw [if_neg this]
      · simp
    rw [e]
    exact own_far hown (fun gg hgg => by have e9 : g = gg := (by simpa [Value.ownBlock] using hgg); omega) _
  · by_cases e : i = k
    · subst e
      rw [if_pos rfl]
      exact hnew.of_block (keep _ (by omega) hnn (by omega))
    · rw [if_neg e]
      have hik : i < k := by omega
      have h1 := ibl i hik
      have h2 := h.ne i hik
      exact (h.rows i hik).of_block ((keep _ (by omega) h2.2 (by omega)).trans (Below.heap_alloc wr _ _ h1))
  · by_cases e : i = k
    · subst e
      rw [if_pos rfl]
      refine ⟨by omega, fun e2 => ?_⟩
      have e9 : g = wr.heap.size := by simpa [Value.ownBlock] using e2
      rcases hg with hg | hg
      · have := (ob g hg).2; omega
      · omega
    · rw [if_neg e]
      have hik : i < k := by omega
      have h1 := ibl i hik
      have h2 := h.ne i hik
      refine ⟨h2.1, fun e2 => ?_⟩
      have e9 : g = ib i := by simpa [Value.ownBlock] using e2
      rcases hg with hg | hg
      · rw [e9] at hg; exact h2.2 hg
      · omega
  · by_cases ei : i = k
    · by_cases ej : j = k
      · omega
      · rw [if_pos ei, if_neg ej] at e
        have := ibl j (by omega)
        omega
    · by_cases ej : j = k
      · rw [if_neg ei, if_pos ej] at e
        have := ibl i (by omega)
        omega
      · rw [if_neg ei, if_neg ej] at e
        exact h.inj i j (by omega) (by omega) e
  · refine (((h.bel.alloc hs _).drew).grown hgr (by rw [hsa]; omega) (fun q hq => by have := (ob q hq).1; omega)).setCell (by show w.heap.size ≤ w.heap.size + 1; omega) _

theorem goes_tally1 : Goes Try.prog 83 := goes_of Try.func83 rfl rfl

/-- All rows are made: the memory is ready for the orders. -/
theorem TBuild.done {w wr : World} {rid : FuncId} {first cap : Array Value} {n c : Nat} {ib : Nat → Nat} {X : Option Addr} (h : TBuild w wr rid first cap n n ib X c) (hn : 1 ≤ n) :
    ∃ xb, X = some ⟨xb, 0, none⟩ ∧ n ≤ c ∧ TMem n wr.heap.size wr ib rid first cap w.heap.size (w.heap.size + 1) xb c := by
  obtain ⟨xb, c', hv, hxb, hnc, _, hlt⟩ := own_form h.own hn
  injection hv with e1 e2 e3
  subst e1; subst e3
  have hs := h.bel.size
  have hso : w.heap.size + 1 < wr.heap.size := lt_of_block h.out
  refine ⟨xb, rfl, hnc, h.rule, h.out, fun i hi => ?_, hnc, ⟨by omega, hso, hlt, fun i hi => (h.rows i hi).lt⟩, fun i hi => ?_, h.inj⟩
  · have hc := h.own.cells (g := xb) rfl i (.slice (some ⟨ib i, 0, none⟩) n n) (by simp [hi])
    have e1 : ((⟨xb, 0, none⟩ : Addr).add i) = ⟨xb, i, none⟩ := by
      unfold Addr.add
      split
      · rename_i h0; subst h0; rfl
      · simp
    rw [← e1]; exact hc
  · have h1 := h.ne i hi
    refine ⟨by omega, by omega, fun e => h1.2 ?_⟩
    simp [Value.ownBlock, e]

theorem TInv.start {w wr : World} {rid : FuncId} {first cap : Array Value} {n c : Nat} {ib : Nat → Nat} {X : Option Addr} (h : TBuild w wr rid first cap n n ib X c) : TInv n wr.heap.size wr ib (fun k => ∃ i, i < n ∧ k = ib i) (fun _ _ => 0) wr :=
  ⟨fun k => Iff.rfl, fun _ _ _ => rfl, Nat.le_refl _, fun i hi => (h.rows i hi).congr (fun g _ => by simp [wrap64])⟩

theorem tally_more {n : Nat} {w wr : World} {ib : Nat → Nat} {rid : FuncId} {first cap : Array Value} {X : Option Addr} {c : Nat} {f : List Nat → List Nat} (hn : n ≤ 60) (hn1 : 1 ≤ n) (h : TBuild w wr rid first cap n n ib X c) (hR : RuleOk rid first cap n w f) :
    MoreOk 83 #[.pointer (some ⟨w.heap.size, 0, none⟩), .pointer (some ⟨w.heap.size + 1, 0, none⟩)] n wr.heap.size (tallyStep n f) (TInv n wr.heap.size wr ib) := by
  obtain ⟨xb, hX, hnc, hT⟩ := h.done hn1
  exact ⟨goes_tally1, fun F s w' A c' l hl hi hB hF hA hc _ => tally1_any hn hT hR h.bel.block h.bel.size (fun i hi => by have := (h.ne i hi).1; omega) F s w' A c' l hl hi hA hc,
    fun F s w1 w2 hi hk hs _ => hi.stab hT.lt.2.2.2 hk hs⟩

theorem tallyN_len (n : Nat) (f : List Nat → List Nat) : (tallyN n f).length = n := by simp [tallyN]
theorem tallyN_row (n : Nat) (f : List Nat → List Nat) {i : Nat} (hi : i < n) : (tallyN n f).getD i [] = (List.range n).map fun g => tallyF n f (ordsN n) (fun _ _ => 0) i g := by
  simp [tallyN, List.getD_eq_getElem?_getD, hi]

/-- What the orders leave reads as the counts. -/
theorem tally_end {n : Nat} {w wr w' : World} {ib : Nat → Nat} {rid : FuncId} {first cap : Array Value} {X : Option Addr} {c : Nat} {f : List Nat → List Nat} {F : Nat → Prop} (hn : n ≤ 5) (hn1 : 1 ≤ n) (h : TBuild w wr rid first cap n n ib X c)
    (hi : TInv n wr.heap.size wr ib F (runL (tallyStep n f) (ordsN n) (fun _ _ => 0)).2 w') (ho : Only (fun k => ∃ i, i < n ∧ k = ib i) wr w') :
    w'.heap[w.heap.size + 1]? = some (.cells #[.slice X n c] 22 (0, 0)) ∧ n ≤ c ∧ RowsA w' w'.heap.size X (upp (tallyN n f)) ∧ Below w.heap.size w w' := by
  obtain ⟨xb, rfl, hnc, hT⟩ := h.done hn1
  have hlt := hT.lt
  rw [runL_tally] at hi
  have hk : ∀ k, k < wr.heap.size → (∀ i, i < n → k ≠ ib i) → w'.heap[k]? = wr.heap[k]? := hi.2.1
  refine ⟨(hk _ hlt.2.1 (fun i hi e => (hT.ne i hi).2.1 e.symm)).trans h.out, hnc, fun i hil => ?_, h.bel.trans (ho.below h.bel.size (fun k hk => ?_))⟩
  · rw [upp_length, tallyN_len] at hil
    have hrow := hi.2.2.2 i hil
    have hll : ((upp (tallyN n f)).getD i []).length = n := by rw [upp_getD, up_length, tallyN_row _ _ hil]; simp
    refine ⟨xb, 0, some ⟨ib i, 0, none⟩, n, rfl, by have := hi.2.2.1; omega, ?_, by omega, ?_⟩
    · rw [hll, Nat.zero_add]
      exact (World.cell?_of_block (w := wr) (a := ⟨xb, i, none⟩) (hk xb hlt.2.2.1 (fun i hi e => (hT.ne i hi).2.2 e.symm))).trans (hT.rows i hil)
    · refine ints_of_row hrow hll.symm (fun g hg => ?_)
      have e : ((upp (tallyN n f)).getD i []).getD g 0 = ((tallyF n f (ordsN n) (fun _ _ => 0) i g : Nat) : Int) := by
        rw [upp_getD, up_getD, tallyN_row _ _ hil]
        simp [List.getD_eq_getElem?_getD, hg]
      rw [e]
      have h1 := tallyF_le n f (ordsN n) (fun _ _ => 0) i g
      have h2 := ords_len n hn
      rw [wrapNat _ (by omega)]
  · obtain ⟨i, hi', rfl⟩ := hk
    have := (h.ne i hi').1
    omega

set_option maxRecDepth 100000 in
set_option maxHeartbeats 3200000 in
theorem tally_any {n : Nat} {rid : FuncId} {first cap : Array Value} {f : List Nat → List Nat} (A : Option Addr) (c : Nat) (w : World) (hn : n ≤ 5) (hn1 : 1 ≤ n) (hR : RuleOk rid first cap n w f) :
    Calls Try.prog 53 #[.slice A n c, .func (.func rid) first cap] w (TableRes n (tallyN n f) w) := by
  have hmk := run_make_row' (P := Try.prog) 23 3 (.int .i64 0) 8 Try.underlying23 info_int rfl .i64 .i64 n (by omega) (by omega)
  have hb0 : TBuild w ((w.alloc (.cells #[.func (.func rid) first cap] 40)).alloc (.cells #[.slice none 0 0] 22)) rid first cap n 0 (fun _ => 0) none 0 := by
    refine ⟨alloc_old _ _ _ (by simp) (alloc_new _ _ _ rfl), alloc_new _ _ _ (by simp), World.ownsRow_nil _ _ _ _, fun i hi => by omega, fun i hi => by omega, fun i j hi => by omega, ((Below.refl _ _).alloc (Nat.le_refl _) _).alloc (by simp) _⟩
  have HR := hide hR
  clear hR
  go_enter Try.func53, Try.ntmps53
  go_wp2
  go_loopw [8] (fun i wr => ∃ (k : Nat) (ib : Nat → Nat) (X : Option Addr) (c' : Nat), k ≤ n ∧ i = .int .i64 k ∧ TBuild w wr rid first cap n k ib X c') (fun i _ => n - (intOf i).toNat)
  case atStart => exact ⟨0, _, _, _, Nat.zero_le _, rfl, hb0⟩
  case round =>
    clear hb0
    obtain ⟨k, ib, X, c1, hk, rfl, hb⟩ := hrel
    have q0 := blk_cell hb.out 0
    have f0 := blk_free hb.out 0
    simp only [List.getElem?_toArray, List.getElem?_cons_zero] at q0
    have hsz : w.heap.size + 1 < wr.heap.size := lt_of_block hb.out
    have HB := hide hb
    have HOW := hide hb.own
    clear hb
    by_cases hlt : k < n
    · have qa : ∀ o o', ((wr.alloc o).alloc o').cell? ⟨w.heap.size + 1, 0, none⟩ = some (.slice X k c1) := fun o o' => by
        rw [World.cell?_alloc_lt _ _ _ (by simp; omega), World.cell?_alloc_lt _ _ _ (by show w.heap.size + 1 < _; omega)]; exact q0
      go_wp2
      go_region_law (refine step_app1 (w0 := (wr.alloc (.cells (madeCells #[.int .i64 0] n) 3)).drew) _ _ 22 23 (.slice none 0 0) 24 rfl rfl Try.underlying22 info_ints rfl (w.heap.size + 2) (.slice X k c1) k _ (.slice (some ⟨wr.heap.size, 0, none⟩) n n) (by simp [Act.eval, Act.put]) (by simp [Act.eval, Act.put]) rfl ⟨_, rfl⟩ ((HOW.out.alloc _).drew) rfl (by omega) (by omega) (by simp; omega) ?_; intro g cg w1 hown hc hcm hg hgl hgr; have HB1 := hide ((hgr.block (w.heap.size + 1) (by simp; omega) (fun e => by have := (own_lt HOW.out _ e.symm).1; omega)).trans (alloc_old wr _ _ (by omega) HB.out.out)); have d1 := blk_cell HB1.out 0; have e1 := blk_free HB1.out 0; simp only [List.getElem?_toArray, List.getElem?_cons_zero] at d1; have HOW1 := hide hown; have HGR := hide hgr; have HG1 := hide hg; clear hown hgr hg)
      all_goals go_wp2_with fail
      all_goals go_roundw
      all_goals first
        | exact ⟨k + 1, _, _, _, by omega, by go_num, HB.out.step (.cells #[.int .i64 0] 3) HOW1.out HG1.out HGR.out⟩
        | (simp [intOf] <;> omega)
    · obtain rfl : n = k := by omega
      obtain ⟨F0, hF0⟩ : ∃ F0 : Nat → Prop, F0 = (fun k => ∃ i, i < n ∧ k = ib i) := ⟨_, rfl⟩
      have HORD := hide (orders_any (tally_more (by omega) hn1 HB.out HR.out) (by omega) (fun _ _ => 0) F0 (by rw [hF0]; exact TInv.start HB.out) (fun q hq => by rw [hF0] at hq; obtain ⟨i, hi, rfl⟩ := hq; exact (HB.out.rows i hi).lt))
      have HF0 := hide hF0
      clear hF0
      go_wp2_with (go_at_call 62; refine (HORD.out).mono ?_; rintro e w1 ⟨F', rfl, h1, h2, h3, h4⟩; rw [HF0.out] at h4; have HE := hide (tally_end hn hn1 HB.out h1 h4); have d0 := blk_cell HE.out.1 0; simp only [List.getElem?_toArray, List.getElem?_cons_zero] at d0; clear h1 h2 h3 h4)
      go_ret
      exact ⟨X, c1, rfl, HE.out.2.1, HE.out.2.2.1, HE.out.2.2.2⟩
end Go.Proofs.Ytilnbiaabhdfgaa
