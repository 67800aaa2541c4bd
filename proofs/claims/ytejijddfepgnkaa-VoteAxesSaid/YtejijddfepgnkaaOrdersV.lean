/-
  vote: orders: the function that gives all orders of some numbers; the loop's body is whatever keeps yield's contract.
-/
import Derived.Test.YtejijddfepgnkaaInfo
import Derived.Test.YtejijddfepgnkaaYield
import Derived.Test.YtejijddfepgnkaaContains
import Derived.Test.YtejijddfepgnkaaEqual
import Derived.Laws.EntriesVeiled
import Derived.TacticsIn
import Derived.OrdersIn
import Derived.LoopIn
import Derived.OwnWalkIn
namespace Go.Proofs.Ytejijddfepgnkaa
open Go.RowKit
set_option linter.unusedVariables false
set_option linter.unusedSimpArgs false

/-- All orders of names that begin with l, d numbers being left. -/
def ordsG (names : List Nat) : Nat → List Nat → List (List Nat)
  | 0, l => [l]
  | d + 1, l => names.flatMap fun x => if x ∈ l then [] else ordsG names d (l ++ [x])
def ordsTo' (names : List Nat) (d : Nat) (l : List Nat) (k : Nat) : List (List Nat) := (names.take k).flatMap fun x => if x ∈ l then [] else ordsG names d (l ++ [x])
theorem ordsTo'_succ (names : List Nat) (d : Nat) (l : List Nat) (k : Nat) (h : k < names.length) : ordsTo' names d l (k + 1) = ordsTo' names d l k ++ if names.getD k 0 ∈ l then [] else ordsG names d (l ++ [names.getD k 0]) := by
  rw [ordsTo', List.take_succ_eq_append_getElem h, List.flatMap_append, List.getD_eq_getElem?_getD, List.getElem?_eq_getElem h]
  simp [ordsTo']
theorem ordsTo'_split (names : List Nat) (d : Nat) (l : List Nat) {k : Nat} : ∃ t, ordsG names (d + 1) l = ordsTo' names d l k ++ t :=
  ⟨(names.drop k).flatMap fun x => if x ∈ l then [] else ordsG names d (l ++ [x]), by rw [ordsTo', ← List.flatMap_append, List.take_append_drop]; rfl⟩
theorem ordsTo'_full (names : List Nat) (d : Nat) (l : List Nat) : ordsTo' names d l names.length = ordsG names (d + 1) l := by
  rw [ordsTo', List.take_length]; rfl

theorem own_take {w : World} {base n m c : Nat} {e : TypeId} {A : Option Addr} {xs : List Value} (h : w.ownsRow base e 1 (.slice A n c) n xs) (hm : m ≤ n) : w.ownsRow base e 1 (.slice A m c) m (xs.take m) := by
  refine ⟨by have := h.1; simp [List.length_take]; omega, ?_⟩
  rcases h.2 with ⟨hv, h0⟩ | ⟨g, cap, cur, hv, hg, hh, hc, hmx, hs, ht⟩
  · injection hv with e1 e2 e3
    subst e1; subst e3
    have : m = 0 := by omega
    subst this
    exact .inl ⟨rfl, rfl⟩
  · injection hv with e1 e2 e3
    subst e1; subst e3
    refine .inr ⟨g, c, cur, rfl, hg, hh, by omega, hmx, hs, ?_⟩
    rw [← ht, List.take_take]
    congr 1
    omega

theorem own_same {w w' : World} {base k : Nat} {e : TypeId} {v : Value} {xs : List Value} (h : w.ownsRow base e 1 v k xs) (hk : ∀ g, v.ownBlock = some g → w'.heap[g]? = w.heap[g]?) : w'.ownsRow base e 1 v k xs := by
  refine ⟨h.1, ?_⟩
  rcases h.2 with h2 | ⟨g, cap, cur, hv, hg, hh, r⟩
  · exact .inl h2
  · exact .inr ⟨g, cap, cur, hv, hg, (hk g (by rw [hv]; rfl)).trans hh, r⟩


theorem IntsA.keepR {w w' : World} {B B' : Nat} {A : Option Addr} {l : List Int} (h : IntsA w B A l) (hB : B ≤ B') (hk : ∀ b o, A = some ⟨b, o, none⟩ → b < B → w'.heap[b]? = w.heap[b]?) : IntsA w' B' A l := by
  by_cases h0 : l.length = 0
  · exact fun i hi => absurd hi (by omega)
  · obtain ⟨b', o', y, e1, h2, _⟩ := h.at_ (k := 0) (by omega)
    refine h.keepA fun b o e => ?_
    have e9 := e1.symm.trans e
    injection e9 with e9; injection e9 with e9
    subst e9
    exact ⟨by omega, hk b' o e h2⟩

/-- The names' own blocks. -/
def NamesAt (N0 : Nat) (An : Option Addr) (k : Nat) : Prop := k = N0 ∨ ∃ o, An = some ⟨k, o, none⟩

section
variable {σ : Type} {l0 B0 N0 : Nat} {S : List Nat → Prop} {live : σ → Prop} {step : σ → List Nat → Bool × σ} {Inv : (Nat → Prop) → σ → World → Prop} {names : List Nat} {n cn : Nat} {An : Option Addr}

/-- The call's own blocks: yield (B0), the order as far as it has grown (B0 + 1), the growing function (B0 + 2), and the order's row; the names (N0) and their row lay there before. -/
structure GrMem (w : World) (l0 B0 N0 : Nat) (names : List Nat) (n cn : Nat) (An : Option Addr) (l : List Nat) (m : Nat) (A : Option Addr) (c : Nat) : Prop where
  len : l.length = m
  nlen : names.length = n
  yb : w.heap[B0]? = some (.cells #[.func (.yield l0) #[] #[]] 95 (0, 0))
  lb : w.heap[B0 + 1]? = some (.cells #[.slice A m c] 23 (0, 0))
  gb : w.heap[B0 + 2]? = some (.cells #[.func (.func 91) #[] #[.pointer (some ⟨B0 + 1, 0, none⟩), .pointer (some ⟨N0, 0, none⟩), .pointer (some ⟨B0, 0, none⟩), .pointer (some ⟨B0 + 2, 0, none⟩)]] 30 (0, 0))
  nb : w.heap[N0]? = some (.cells #[.slice An n cn] 23 (0, 0))
  nB : N0 < B0
  ni : IntsA w B0 An (up names)
  row : w.ownsRow (B0 + 3) 3 1 (.slice A m c) m ((up l).map (Value.int .i64))
  mc : m ≤ c

/-- Whom the round writes to: none of the call's own blocks, nor the names. -/
structure FOk (F : Nat → Prop) (w : World) (B0 N0 : Nat) (An : Option Addr) (v : Value) : Prop where
  lt : ∀ k, F k → k < w.heap.size
  off : ∀ k, F k → k < B0 ∨ B0 + 3 ≤ k
  offn : ∀ k, F k → k < B0 → ¬ NamesAt N0 An k
  row : ∀ k, F k → v.ownBlock ≠ some k

/-- The names lie as they lay. -/
theorem names_keep {w w' : World} {F : Nat → Prop} (hn : IntsA w B0 An (up names)) (hF : ∀ k, k < B0 → ¬ F k → w'.heap[k]? = w.heap[k]?) (hoff : ∀ k, F k → k < B0 → ¬ NamesAt N0 An k) : IntsA w' B0 An (up names) :=
  hn.keepR (Nat.le_refl _) fun b o e hb => hF b hb fun hf => hoff b hf hb (.inr ⟨o, e⟩)

/-- What the growing function leaves. -/
def GrPost (step : σ → List Nat → Bool × σ) (Inv : (Nat → Prop) → σ → World → Prop) (l0 B0 N0 : Nat) (names : List Nat) (n cn : Nat) (An : Option Addr) (m d : Nat) (l : List Nat) (s : σ) (F : Nat → Prop) (A : Option Addr) (c : Nat) (w : World) (e : Ending) (w' : World) : Prop :=
  ∃ F', e = .returned (.bool (runL step (ordsG names d l) s).1) ∧ Inv F' (runL step (ordsG names d l) s).2 w' ∧ (∀ k, F' k → F k ∨ w.heap.size ≤ k) ∧ (∀ k, F' k → k < w'.heap.size) ∧
    Only (fun k => F k ∨ k = B0 + 1 ∨ (Value.slice A m c).ownBlock = some k) w w' ∧
    ((runL step (ordsG names d l) s).1 = true → ∃ A' c', GrMem w' l0 B0 N0 names n cn An l m A' c' ∧ FOk F' w' B0 N0 An (.slice A' m c') ∧ ∀ k, (Value.slice A' m c').ownBlock = some k → (Value.slice A m c).ownBlock = some k ∨ w.heap.size ≤ k)

set_option maxHeartbeats 1600000 in
theorem grow_zero (hmo : YOk Try.prog l0 1 B0 S live step Inv) (hn60 : n ≤ 60) (l : List Nat) (s : σ) (F : Nat → Prop) (A : Option Addr) (c : Nat) (w : World) (hl : S l) (hs : live s) (hm : GrMem w l0 B0 N0 names n cn An l n A c) (hi : Inv F s w) (hF : FOk F w B0 N0 An (.slice A n c)) :
    Calls Try.prog 91 #[.pointer (some ⟨B0 + 1, 0, none⟩), .pointer (some ⟨N0, 0, none⟩), .pointer (some ⟨B0, 0, none⟩), .pointer (some ⟨B0 + 2, 0, none⟩)] w (GrPost step Inv l0 B0 N0 names n cn An n 0 l s F A c w) := by
  have hB0 : B0 + 2 < w.heap.size := lt_of_block hm.gb
  have HC := hide (clone_any A n c w.heap.size (up l) w.drew (by rw [up_length]; exact hm.len) (by omega) ((ints_of_own hm.row).keep fun _ _ => rfl))
  have hY : ∀ (w1 : World) (A' : Option Addr) (c' : Nat), Below w.heap.size w w1 → n ≤ c' → IntsA w1 w1.heap.size A' (up l) → (∀ g, (Value.slice A' n c').ownBlock = some g → w.heap.size ≤ g) →
      YieldAt Fence.wide 1 Try.prog l0 #[.slice A' n c'] w1 (GrPost step Inv l0 B0 N0 names n cn An n 0 l s F A c w) := by
    intro w1 A' c' hb hc' hi' hg'
    have hln := hm.len
    have h1 := hmo.call F s w1 A' c' l hl hs (hmo.stab _ _ _ _ hi (fun k hk => hb.block k (by rcases hk with h | h; exact hF.lt k h; omega)) hb.size hb.tape) (by have := hb.size; omega) (fun k hk => by have := hF.lt k hk; have := hb.size; omega) hi' (by omega)
      (fun k hk => by rw [hln] at hk; have := hg' k hk; exact ⟨by omega, fun hf => by have := hF.lt k hf; omega⟩)
    obtain ⟨fn, tmps, assign, body, hy, hR⟩ := h1
    rw [hln] at hy hR
    refine ⟨fn, tmps, assign, body, hy, hR.mono ?_⟩
    rintro e w' ⟨F', rfl, g1, g2, g3, g4⟩
    have e0 : runL step (ordsG names 0 l) s = step s l := runL_one step l s
    have keep : ∀ k, k < w.heap.size → ¬ F k → w'.heap[k]? = w.heap[k]? := fun k hk hn => (g4.block k (by have := hb.size; omega) hn).trans (hb.block k hk)
    have nof : ∀ k, B0 ≤ k → k < B0 + 3 → ¬ F k := fun k hk hk4 hf => by have := hF.off k hf; omega
    have own : ∀ k, (Value.slice A n c).ownBlock = some k → k < w.heap.size ∧ ¬ F k := fun k hk => ⟨(own_lt hm.row k hk).2, fun hf => hF.row k hf hk⟩
    have hsz : w.heap.size ≤ w'.heap.size := Nat.le_trans hb.size g4.size
    have hsub : ∀ k, F' k → F k ∨ w.heap.size ≤ k := fun k hk => by
      rcases g2 k hk with h | h | h
      · exact .inl h
      · exact .inr (hg' k h)
      · have := hb.size; exact .inr (by omega)
    refine ⟨F', by rw [e0], by rw [e0]; exact g1, hsub, g3, ?_, fun _ => ⟨A, c, ⟨hm.len, hm.nlen, ?_, ?_, ?_, ?_, hm.nB, ?_, ?_, hm.mc⟩, ⟨g3, ?_, ?_, ?_⟩, fun k hk => .inl hk⟩⟩
    · exact ((Only.of_below hb).trans g4 (fun q _ hq => .inl hq))
    · exact (keep _ (by omega) (nof _ (by omega) (by omega))).trans hm.yb
    · exact (keep _ (by omega) (nof _ (by omega) (by omega))).trans hm.lb
    · exact (keep _ (by omega) (nof _ (by omega) (by omega))).trans hm.gb
    · have hN := hm.nB
      exact (keep _ (by omega) (fun hf => hF.offn _ hf (by omega) (.inl rfl))).trans hm.nb
    · exact names_keep hm.ni (fun k hk hn => keep k (by omega) hn) hF.offn
    · exact own_same hm.row fun g hg => keep g (own g hg).1 (own g hg).2
    · intro k hk
      rcases hsub k hk with h | h
      · exact hF.off k h
      · omega
    · intro k hk hkB
      rcases hsub k hk with h | h
      · exact hF.offn k h hkB
      · omega
    · intro k hk e
      obtain ⟨e1, e2⟩ := own k e
      rcases hsub k hk with h | h
      · exact e2 h
      · omega
  have HY := hide hY
  have c0 := blk_cell hm.lb 0
  have c1 := blk_cell hm.nb 0
  have c2 := blk_cell hm.yb 0
  simp only [List.getElem?_toArray, List.getElem?_cons_zero] at c0 c1 c2
  have hnn : ((n : Int) == (n : Int)) = true := by simp
  clear hm hF hi hmo hl hs hY
  refine (callsIn_wide (n := 2)).1 (callsIn_of_wp Try.func91 rfl trivial ?_)
  simp only [Try.ntmps91, List.size_toArray, List.length_cons, List.length_nil, Nat.reduceAdd, Nat.reduceSub, Array.replicate_succ, Array.replicate_zero, List.push_toArray, List.append_toArray, List.nil_append, List.cons_append]
  gi_wp2
  refine wpIn_region_any (by kernel_rfl) ?_
  change wpAnyIn _ _ _ _ _ _ _ _ _ (World.drew _)
  show wpAnyIn _ _ _ _ _ _ _ (#[false, false, false, false, false] : Array Bool) _ _
  refine wpAnyIn_ready (rs := [0, 1]) (by kernel_rfl) (by simp) ?_
  refine AllReadyIn.cons rfl (fun K hK => ?_) (AllReadyIn.cons rfl (fun K hK => ?_) AllReadyIn.nil)
  · go_simp
    refine hK _ _ ?_
    clear hK K
    refine wpAnyIn_ready (rs := [1]) (by kernel_rfl) (by simp) ?_
    refine AllReadyIn.cons rfl (fun K hK => ?_) AllReadyIn.nil
    go_simp
    refine hK _ _ ?_
    clear hK K
    refine wpAnyIn_ready (rs := [2]) (by kernel_rfl) (by simp) ?_
    refine AllReadyIn.cons rfl (fun K hK => ?_) AllReadyIn.nil
    go_simp
    refine ⟨trivial, ?_⟩
    refine (callsIn_wide.2 HC.out).mono ?_
    rintro e w1 ⟨A1, k1, rfl, h1, h2, h3, h4, h5⟩
    refine hK _ _ ?_
    clear hK K
    have hb1 : Below w.heap.size w w1 := ((Below.refl _ w).drew).trans h4
    obtain ⟨fn, tm, asg, bo, hy, hR⟩ := HY.out w1 A1 k1 hb1 h1 h2 h5
    replace c2 := (hb1.cell (p := ⟨B0, 0, none⟩) (by show B0 < _; omega)).trans c2
    clear h1 h2 h3 h4 h5 hb1
    refine wpAnyIn_ready (rs := [3]) (by kernel_rfl) (by simp) ?_
    refine AllReadyIn.cons rfl (fun K hK => ?_) AllReadyIn.nil
    go_simp
    refine hR.mono ?_
    intro e w9 hp
    obtain ⟨v, rfl⟩ : ∃ v, e = .returned v := by obtain ⟨F9, h9, _⟩ := hp; exact ⟨_, h9⟩
    have HP := hide hp
    clear hp
    refine hK _ _ ?_
    clear hK K
    refine wpAnyIn_ready (rs := [4]) (by kernel_rfl) (by simp) ?_
    refine AllReadyIn.cons rfl (fun K hK => ?_) AllReadyIn.nil
    go_simp
    refine hK _ _ ?_
    clear hK K
    refine wpAnyIn_done (by kernel_rfl) ?_ _
    gi_wp2
    go_ret
    exact HP.out
  · go_simp
    refine hK _ _ ?_
    clear hK K
    refine wpAnyIn_ready (rs := [0, 2]) (by kernel_rfl) (by simp) ?_
    refine AllReadyIn.cons rfl (fun K hK => ?_) (AllReadyIn.cons rfl (fun K hK => ?_) AllReadyIn.nil)
    · go_simp
      refine hK _ _ ?_
      clear hK K
      refine wpAnyIn_ready (rs := [2]) (by kernel_rfl) (by simp) ?_
      refine AllReadyIn.cons rfl (fun K hK => ?_) AllReadyIn.nil
      go_simp
      refine ⟨trivial, ?_⟩
      refine (callsIn_wide.2 HC.out).mono ?_
      rintro e w1 ⟨A1, k1, rfl, h1, h2, h3, h4, h5⟩
      refine hK _ _ ?_
      clear hK K
      have hb1 : Below w.heap.size w w1 := ((Below.refl _ w).drew).trans h4
      obtain ⟨fn, tm, asg, bo, hy, hR⟩ := HY.out w1 A1 k1 hb1 h1 h2 h5
      replace c2 := (hb1.cell (p := ⟨B0, 0, none⟩) (by show B0 < _; omega)).trans c2
      clear h1 h2 h3 h4 h5 hb1
      refine wpAnyIn_ready (rs := [3]) (by kernel_rfl) (by simp) ?_
      refine AllReadyIn.cons rfl (fun K hK => ?_) AllReadyIn.nil
      go_simp
      refine hR.mono ?_
      intro e w9 hp
      obtain ⟨v, rfl⟩ : ∃ v, e = .returned v := by obtain ⟨F9, h9, _⟩ := hp; exact ⟨_, h9⟩
      have HP := hide hp
      clear hp
      refine hK _ _ ?_
      clear hK K
      refine wpAnyIn_ready (rs := [4]) (by kernel_rfl) (by simp) ?_
      refine AllReadyIn.cons rfl (fun K hK => ?_) AllReadyIn.nil
      go_simp
      refine hK _ _ ?_
      clear hK K
      refine wpAnyIn_done (by kernel_rfl) ?_ _
      gi_wp2
      go_ret
      exact HP.out
    · go_simp
      refine ⟨trivial, ?_⟩
      refine (callsIn_wide.2 HC.out).mono ?_
      rintro e w1 ⟨A1, k1, rfl, h1, h2, h3, h4, h5⟩
      refine hK _ _ ?_
      clear hK K
      have hb1 : Below w.heap.size w w1 := ((Below.refl _ w).drew).trans h4
      obtain ⟨fn, tm, asg, bo, hy, hR⟩ := HY.out w1 A1 k1 hb1 h1 h2 h5
      replace c2 := (hb1.cell (p := ⟨B0, 0, none⟩) (by show B0 < _; omega)).trans c2
      clear h1 h2 h3 h4 h5 hb1
      refine wpAnyIn_ready (rs := [0]) (by kernel_rfl) (by simp) ?_
      refine AllReadyIn.cons rfl (fun K hK => ?_) AllReadyIn.nil
      go_simp
      refine hK _ _ ?_
      clear hK K
      refine wpAnyIn_ready (rs := [3]) (by kernel_rfl) (by simp) ?_
      refine AllReadyIn.cons rfl (fun K hK => ?_) AllReadyIn.nil
      go_simp
      refine hR.mono ?_
      intro e w9 hp
      obtain ⟨v, rfl⟩ : ∃ v, e = .returned v := by obtain ⟨F9, h9, _⟩ := hp; exact ⟨_, h9⟩
      have HP := hide hp
      clear hp
      refine hK _ _ ?_
      clear hK K
      refine wpAnyIn_ready (rs := [4]) (by kernel_rfl) (by simp) ?_
      refine AllReadyIn.cons rfl (fun K hK => ?_) AllReadyIn.nil
      go_simp
      refine hK _ _ ?_
      clear hK K
      refine wpAnyIn_done (by kernel_rfl) ?_ _
      gi_wp2
      go_ret
      exact HP.out

/-- Behind the append of the next number and the store of the longer order. -/
theorem grow_pushed {w w1 : World} {l : List Nat} {m c1 g cg x : Nat} {s1 : σ} {F1 : Nat → Prop} {A1 : Option Addr} (hmo : YOk Try.prog l0 1 B0 S live step Inv) (hm : GrMem w l0 B0 N0 names n cn An l m A1 c1) (hi : Inv F1 s1 w) (hF : FOk F1 w B0 N0 An (.slice A1 m c1))
    (hown : w1.ownsRow (B0 + 3) 3 1 (.slice (some ⟨g, 0, none⟩) (m + 1) cg) (m + 1) ((up l).map (Value.int .i64) ++ [Value.int .i64 (x : Int)])) (hc : m + 1 ≤ cg) (hg1 : (Value.slice A1 m c1).ownBlock = some g ∨ w.heap.size ≤ g)
    (hgr : w.grownBy w1 (Value.slice A1 m c1).ownBlock) :
    GrMem (w1.setCell ⟨B0 + 1, 0, none⟩ (.slice (some ⟨g, 0, none⟩) (m + 1) cg)) l0 B0 N0 names n cn An (l ++ [x]) (m + 1) (some ⟨g, 0, none⟩) cg ∧ Inv F1 s1 (w1.setCell ⟨B0 + 1, 0, none⟩ (.slice (some ⟨g, 0, none⟩) (m + 1) cg)) ∧
      FOk F1 (w1.setCell ⟨B0 + 1, 0, none⟩ (.slice (some ⟨g, 0, none⟩) (m + 1) cg)) B0 N0 An (.slice (some ⟨g, 0, none⟩) (m + 1) cg) ∧
      Only (fun q => q = B0 + 1 ∨ (Value.slice A1 m c1).ownBlock = some q) w (w1.setCell ⟨B0 + 1, 0, none⟩ (.slice (some ⟨g, 0, none⟩) (m + 1) cg)) := by
  have hgl := lt_of_block hm.gb
  have hnB := hm.nB
  have own : ∀ q, (Value.slice A1 m c1).ownBlock = some q → B0 + 3 ≤ q ∧ q < w.heap.size := fun q hq => own_lt hm.row q hq
  have hgB : B0 + 3 ≤ g := by
    rcases hg1 with h | h
    · exact (own g h).1
    · omega
  have keep : ∀ q, q < w.heap.size → (Value.slice A1 m c1).ownBlock ≠ some q → q ≠ B0 + 1 → (w1.setCell ⟨B0 + 1, 0, none⟩ (.slice (some ⟨g, 0, none⟩) (m + 1) cg)).heap[q]? = w.heap[q]? := fun q hq h1 h2 =>
    (blk_far _ h2).trans (hgr.block q hq (fun e => h1 e.symm))
  have low : ∀ q, q < B0 + 3 → (Value.slice A1 m c1).ownBlock ≠ some q := fun q hq e => by have := (own q e).1; omega
  have hsz : w.heap.size ≤ (w1.setCell ⟨B0 + 1, 0, none⟩ (.slice (some ⟨g, 0, none⟩) (m + 1) cg)).heap.size := by have := hgr.size; simpa [World.setCell] using this
  refine ⟨⟨by simp [hm.len], hm.nlen, ?_, ?_, ?_, ?_, hm.nB, ?_, ?_, hc⟩, ?_, ⟨?_, hF.off, hF.offn, ?_⟩, ?_⟩
  · exact (keep _ (by omega) (low _ (by omega)) (by omega)).trans hm.yb
  · exact blk_set ((hgr.block _ (by omega) (fun e => low (B0 + 1) (by omega) e.symm)).trans hm.lb) 0 _
  · exact (keep _ (by omega) (low _ (by omega)) (by omega)).trans hm.gb
  · exact (keep _ (by omega) (low _ (by omega)) (by omega)).trans hm.nb
  · exact hm.ni.keepR (Nat.le_refl _) fun b o e hb => keep b (by omega) (low b (by omega)) (by omega)
  · have e : (up (l ++ [x])).map (Value.int .i64) = (up l).map (Value.int .i64) ++ [Value.int .i64 (x : Int)] := by simp [up]
    rw [e]
    exact own_far hown (fun gg hgg => by have e9 : g = gg := (by simpa [Value.ownBlock] using hgg); omega) _
  · refine hmo.stab _ _ _ _ hi (fun q hq => ?_) hsz (by show w1.tape = _; exact hgr.tape)
    rcases hq with hq | hq
    · have h1 := hF.lt q hq
      have h2 := hF.off q hq
      have h3 := hF.row q hq
      exact keep q h1 h3 (by omega)
    · exact keep q (by omega) (low q (by omega)) (by omega)
  · intro q hq; have := hF.lt q hq; omega
  · intro q hq e
    have e9 : g = q := by simpa [Value.ownBlock] using e
    subst e9
    rcases hg1 with h | h
    · exact hF.row g hq h
    · have := hF.lt g hq; omega
  · exact (Only.of_grown hgr (fun q hq => .inr hq)).setCell (.inl (.inl rfl)) _

/-- Behind the growing function's own call, where it wants more: the order is as it was. -/
theorem grow_popped {w3 : World} {l : List Nat} {m c3 x : Nat} {s3 : σ} {F3 : Nat → Prop} {A3 : Option Addr} (hmo : YOk Try.prog l0 1 B0 S live step Inv) (hm : GrMem w3 l0 B0 N0 names n cn An (l ++ [x]) (m + 1) A3 c3) (hi : Inv F3 s3 w3) (hF : FOk F3 w3 B0 N0 An (.slice A3 (m + 1) c3)) :
    GrMem (w3.setCell ⟨B0 + 1, 0, none⟩ (.slice A3 m c3)) l0 B0 N0 names n cn An l m A3 c3 ∧ Inv F3 s3 (w3.setCell ⟨B0 + 1, 0, none⟩ (.slice A3 m c3)) ∧ FOk F3 (w3.setCell ⟨B0 + 1, 0, none⟩ (.slice A3 m c3)) B0 N0 An (.slice A3 m c3) := by
  have hgl := lt_of_block hm.gb
  have hnB := hm.nB
  have hob : (Value.slice A3 (m + 1) c3).ownBlock = (Value.slice A3 m c3).ownBlock := by cases A3 <;> rfl
  have own : ∀ q, (Value.slice A3 m c3).ownBlock = some q → B0 + 3 ≤ q ∧ q < w3.heap.size := fun q hq => own_lt hm.row q (by rw [hob]; exact hq)
  have hll : l.length = m := by have := hm.len; simp at this; omega
  have keep : ∀ q, q ≠ B0 + 1 → (w3.setCell ⟨B0 + 1, 0, none⟩ (.slice A3 m c3)).heap[q]? = w3.heap[q]? := fun q h => blk_far _ h
  refine ⟨⟨hll, hm.nlen, ?_, blk_set hm.lb 0 _, ?_, ?_, hm.nB, ?_, ?_, by have := hm.mc; omega⟩, ?_, ⟨?_, hF.off, hF.offn, ?_⟩⟩
  · exact (keep _ (by omega)).trans hm.yb
  · exact (keep _ (by omega)).trans hm.gb
  · exact (keep _ (by omega)).trans hm.nb
  · exact hm.ni.keepR (Nat.le_refl _) fun b o e hb => keep b (by omega)
  · have h1 := own_take hm.row (m := m) (by omega)
    have e : ((up (l ++ [x])).map (Value.int .i64)).take m = (up l).map (Value.int .i64) := by
      simp only [up, List.map_append, List.map_map]
      rw [List.take_append_of_le_length (by simp; omega), List.take_of_length_le (by simp; omega)]
    rw [e] at h1
    exact own_far h1 (fun gg hgg => by have := (own gg hgg).1; omega) _
  · refine hmo.stab _ _ _ _ hi (fun q hq => keep q ?_) (by simp [World.setCell]) rfl
    rcases hq with hq | hq
    · have := hF.off q hq; omega
    · omega
  · intro q hq; have := hF.lt q hq; simpa [World.setCell] using this
  · intro q hq e; exact hF.row q hq (by rw [hob]; exact e)

/-- What holds at the head of the loop over the next number: k numbers have been tried. -/
structure GrLoop (live : σ → Prop) (step : σ → List Nat → Bool × σ) (Inv : (Nat → Prop) → σ → World → Prop) (l0 B0 N0 : Nat) (names : List Nat) (n cn : Nat) (An : Option Addr) (m d : Nat) (l : List Nat) (s : σ) (F : Nat → Prop) (A : Option Addr) (c : Nat) (w wr : World)
    (k : Nat) (F1 : Nat → Prop) (s1 : σ) (A1 : Option Addr) (c1 : Nat) : Prop where
  inv : Inv F1 s1 wr
  mem : GrMem wr l0 B0 N0 names n cn An l m A1 c1
  ok : FOk F1 wr B0 N0 An (.slice A1 m c1)
  sub : ∀ q, F1 q → F q ∨ w.heap.size ≤ q
  only : Only (fun q => F q ∨ q = B0 + 1 ∨ (Value.slice A m c).ownBlock = some q) w wr
  own : ∀ q, (Value.slice A1 m c1).ownBlock = some q → (Value.slice A m c).ownBlock = some q ∨ w.heap.size ≤ q
  run : runL step (ordsTo' names d l k) s = (true, s1)
  live : live s1

theorem runL_live {live : σ → Prop} {step : σ → List Nat → Bool × σ} (hn : ∀ s x, live s → (step s x).1 = true → live (step s x).2) : ∀ (xs : List (List Nat)) (s : σ), live s → (runL step xs s).1 = true → live (runL step xs s).2
  | [], s, h, _ => h
  | x :: xs, s, h, hr => by
    by_cases h1 : (step s x).1 = true
    · rw [runL, if_pos h1] at hr ⊢
      exact runL_live hn xs _ (hn s x h h1) hr
    · rw [runL, if_neg h1] at hr
      cases hr

set_option maxRecDepth 100000 in
set_option maxHeartbeats 3200000 in
theorem grow_any (hmo : YOk Try.prog l0 1 B0 S live step Inv) (hn : n ≤ 60) : ∀ (d : Nat) (l : List Nat) (m : Nat) (s : σ) (F : Nat → Prop) (A : Option Addr) (c : Nat) (w : World), m + d = n → (∀ o ∈ ordsG names d l, S o) → live s → GrMem w l0 B0 N0 names n cn An l m A c → Inv F s w → FOk F w B0 N0 An (.slice A m c) →
    Calls Try.prog 91 #[.pointer (some ⟨B0 + 1, 0, none⟩), .pointer (some ⟨N0, 0, none⟩), .pointer (some ⟨B0, 0, none⟩), .pointer (some ⟨B0 + 2, 0, none⟩)] w (GrPost step Inv l0 B0 N0 names n cn An m d l s F A c w) := by
  intro d
  induction d with
  | zero =>
    intro l m s F A c w hmd hS hs hm hi hF
    obtain rfl : n = m := by omega
    exact grow_zero hmo hn l s F A c w (hS l (by simp [ordsG])) hs hm hi hF
  | succ d ih =>
    intro l m s F A c w hmd hS hs hm hi hF
    have IH := hide ih
    clear ih
    have hmn : m < n := by omega
    have hne : ((m : Int) == (n : Int)) = false := by simp; omega
    have HSS := hide hS
    have HNX := hide hmo.next
    have hnl := hm.nlen
    have hnB := hm.nB
    have hni := hm.ni
    have g0 : GrLoop live step Inv l0 B0 N0 names n cn An m d l s F A c w w 0 F s A c := ⟨hi, hm, hF, fun q hq => .inl hq, Only.refl _ w, fun q hq => .inl hq, rfl, hs⟩
    have c0 := blk_cell hm.lb 0
    have c1 := blk_cell hm.nb 0
    simp only [List.getElem?_toArray, List.getElem?_cons_zero] at c0 c1
    have HNI := hide hni
    have HMO := hide hmo
    have HNL := hide hnl
    clear hm hi hF hS hs hni hmo hnl
    go_enter Try.func91, Try.ntmps91
    go_wp2
    go_loopw [18] (fun i wr => ∃ (k : Nat) (F1 : Nat → Prop) (s1 : σ) (A1 : Option Addr) (c1 : Nat), k ≤ n ∧ i = .int .i64 k ∧ GrLoop live step Inv l0 B0 N0 names n cn An m d l s F A c w wr k F1 s1 A1 c1) (fun i _ => n - (intOf i).toNat)
    case atStart => exact ⟨0, F, s, A, c, Nat.zero_le _, rfl, g0⟩
    case round =>
      clear c0 c1 g0
      obtain ⟨k, F1, s1, A1, c1, hk, rfl, hg⟩ := hrel
      have hm := hg.mem
      have q0 := blk_cell hm.lb 0
      have q1 := blk_cell hm.nb 0
      have q3 := blk_cell hm.gb 0
      have f0 := blk_free hm.lb 0
      simp only [List.getElem?_toArray, List.getElem?_cons_zero] at q0 q1 q3
      have hsz := lt_of_block hm.gb
      by_cases hlt : k < n
      · obtain ⟨b, o, x9, rfl, hb, hcx, hxx⟩ := hm.ni.at_ (k := k) (by rw [up_length, HNL.out]; exact hlt)
        have hx9 : x9 = ((names.getD k 0 : Nat) : Int) := by rw [← up_getD]; exact hxx.out.symm
        subst hx9
        clear hxx
        obtain ⟨x, hxe⟩ : ∃ x, x = names.getD k 0 := ⟨_, rfl⟩
        have HXE := hide hxe
        rw [← hxe] at hcx
        clear hxe
        have hxS : Hid (ordsTo' names d l (k + 1) = ordsTo' names d l k ++ if x ∈ l then [] else ordsG names d (l ++ [x])) := by
          rw [HXE.out]; exact ordsTo'_succ names d l k (by rw [HNL.out]; exact hlt)
        have HCN := hide (contains_any A1 m c1 wr.heap.size (up l) (x : Int) wr (by rw [up_length]; exact hm.len) (by omega) (ints_of_own hm.row))
        have HG := hide hg
        by_cases hkl : x ∈ l
        · rw [decide_eq_true (mem_up.2 hkl)] at HCN
          have HKL := hide hkl
          clear hg hm hkl
          go_wp2_with (go_at_call 41; refine (HCN.out).mono ?_; rintro e w' ⟨rfl, rfl⟩)
          go_roundw
          case rel =>
            refine ⟨k + 1, F1, s1, A1, c1, by omega, by go_num, HG.out.inv, HG.out.mem, HG.out.ok, HG.out.sub, HG.out.only, HG.out.own, ?_, HG.out.live⟩
            rw [hxS.out, if_pos HKL.out, List.append_nil]; exact HG.out.run
          case measure => simp [intOf] <;> omega
        · rw [decide_eq_false (fun h => hkl (mem_up.1 h))] at HCN
          have HKL : Hid (x ∉ l) := hkl
          have HROW := hide hm.row
          have hc1m := hm.mc
          clear hg hm hkl
          have ca : ∀ o, (wr.alloc o).cell? ⟨B0 + 1, 0, none⟩ = some (.slice A1 m c1) := fun o => (World.cell?_alloc_lt _ _ _ (by show B0 + 1 < _; omega)).trans q0
          go_wp2_with (first
            | (go_at_call 41; refine (HCN.out).mono ?_; rintro e w' ⟨rfl, rfl⟩)
            | (at_builtin; refine wpList_app1 (w0 := wr) _ _ 23 3 (.int .i64 0) 8 rfl rfl Try.underlying23 info_int rfl (B0 + 3) (.slice A1 m c1) m _ (.int .i64 (x : Int)) rfl rfl rfl ⟨_, rfl⟩ HROW.out rfl (by omega) (by omega) (by omega) ?_; intro g cg w1 hown1 hc1 hc2 hg1 hgl hgrow; have HLB := hide ((hgrow.block (B0 + 1) (by omega) (fun e => by have := (own_lt HROW.out _ e.symm).1; omega)).trans HG.out.mem.lb); have d1 := blk_cell HLB.out 0; have e1 := blk_free HLB.out 0; simp only [List.getElem?_toArray, List.getElem?_cons_zero] at d1; have hgc : ∀ v, (w1.setCell ⟨B0 + 1, 0, none⟩ v).cell? ⟨B0 + 2, 0, none⟩ = some (.func (.func 91) #[] #[.pointer (some ⟨B0 + 1, 0, none⟩), .pointer (some ⟨N0, 0, none⟩), .pointer (some ⟨B0, 0, none⟩), .pointer (some ⟨B0 + 2, 0, none⟩)]) := fun v => blk_cell ((blk_far v (by omega)).trans ((hgrow.block (B0 + 2) (by omega) (fun e => by have := (own_lt HROW.out _ e.symm).1; omega)).trans HG.out.mem.gb)) 0; have HOW1 := hide hown1; have HGR := hide hgrow; have HG1 := hide hg1; clear hown1 hgrow hg1))
          have HP2 := hide (grow_pushed HMO.out HG.out.mem HG.out.inv HG.out.ok HOW1.out hc1 HG1.out HGR.out)
          have hih := IH.out (l ++ [x]) (m + 1) s1 F1 (some ⟨g, 0, none⟩) cg (w1.setCell ⟨B0 + 1, 0, none⟩ (.slice (some ⟨g, 0, none⟩) (m + 1) cg)) (by omega)
            (fun o ho => HSS.out o (by
              obtain ⟨t, ht⟩ := ordsTo'_split names d l (k := k + 1)
              rw [ht, hxS.out, if_neg HKL.out]
              exact List.mem_append_left _ (List.mem_append_right _ ho))) HG.out.live HP2.out.1 HP2.out.2.1 HP2.out.2.2.1
          have hrs : Hid (runL step (ordsTo' names d l (k + 1)) s = runL step (ordsG names d (l ++ [x])) s1) := by
            show _ = _
            rw [hxS.out, if_neg HKL.out, runL_append, HG.out.run]; simp
          have hfr : ∀ (F3 : Nat → Prop) (w3 : World), (∀ q, F3 q → F1 q ∨ (w1.setCell ⟨B0 + 1, 0, none⟩ (.slice (some ⟨g, 0, none⟩) (m + 1) cg)).heap.size ≤ q) →
              Only (fun q => F1 q ∨ q = B0 + 1 ∨ (Value.slice (some ⟨g, 0, none⟩) (m + 1) cg).ownBlock = some q) (w1.setCell ⟨B0 + 1, 0, none⟩ (.slice (some ⟨g, 0, none⟩) (m + 1) cg)) w3 →
              (∀ q, F3 q → F q ∨ w.heap.size ≤ q) ∧ Only (fun q => F q ∨ q = B0 + 1 ∨ (Value.slice A m c).ownBlock = some q) w w3 := by
            intro F3 w3 h1 h2
            have hw1 := HG.out.only.size
            have hw2 := HP2.out.2.2.2.size
            refine ⟨fun q hq => ?_, (HG.out.only.trans HP2.out.2.2.2 (fun q hq h => ?_)).trans h2 (fun q hq h => ?_)⟩
            · rcases h1 q hq with h | h
              · exact HG.out.sub q h
              · exact .inr (by omega)
            · rcases h with h | h
              · exact .inr (.inl h)
              · rcases HG.out.own q h with h' | h'
                · exact .inr (.inr h')
                · omega
            · rcases h with h | h | h
              · rcases HG.out.sub q h with h' | h'
                · exact .inl h'
                · omega
              · exact .inr (.inl h)
              · have e9 : g = q := by simpa [Value.ownBlock] using h
                subst e9
                rcases HG1.out with h' | h'
                · rcases HG.out.own g h' with h'' | h''
                  · exact .inr (.inr h'')
                  · omega
                · omega
          have HFR := hide hfr
          clear hfr
          cases hb9 : (runL step (ordsG names d (l ++ [x])) s1).1
          · have HB := hide hb9
            refine hih.mono ?_
            rintro e w3 ⟨F3, rfl, hi3, hsub3, hlt3, honly3, _⟩
            rw [hb9]
            clear hb9 hih
            have HI3 := hide hi3
            have HS3 := hide hsub3
            have HO3 := hide honly3
            have HL3 := hide hlt3
            clear hi3 hsub3 honly3 hlt3
            go_wp2
            go_ret
            obtain ⟨h1, h2⟩ := HFR.out F3 w3 HS3.out HO3.out
            have e1 : runL step (ordsG names (d + 1) l) s = runL step (ordsG names d (l ++ [x])) s1 := by
              obtain ⟨t, ht⟩ := ordsTo'_split names d l (k := k + 1)
              rw [ht, runL_stop step t (by rw [hrs.out]; exact HB.out), hrs.out]
            exact ⟨F3, by rw [e1, HB.out]; rfl, by rw [e1]; exact HI3.out, h1, HL3.out, h2, fun h => by rw [e1, HB.out] at h; cases h⟩
          · have HB := hide hb9
            refine hih.mono ?_
            rintro e w3 ⟨F3, rfl, hi3, hsub3, hlt3, honly3, hmem3⟩
            rw [hb9]
            obtain ⟨A3, c3, hm3, hok3, hown3⟩ := hmem3 hb9
            have HI3 := hide hi3
            have HS3 := hide hsub3
            have HO3 := hide honly3
            have HL3 := hide hlt3
            have HM3 := hide hm3
            have HK3 := hide hok3
            have HW3 := hide hown3
            have r0 := blk_cell hm3.lb 0
            have r1 := blk_free hm3.lb 0
            have hc3 := hm3.mc
            simp only [List.getElem?_toArray, List.getElem?_cons_zero] at r0
            clear hi3 hsub3 honly3 hlt3 hmem3 hm3 hok3 hown3 hb9 hih
            go_wp2
            go_roundw
            case rel =>
              obtain ⟨h1, h2⟩ := HFR.out F3 w3 HS3.out HO3.out
              obtain ⟨p1, p2, p3⟩ := grow_popped HMO.out HM3.out HI3.out HK3.out
              refine ⟨k + 1, F3, _, A3, c3, by omega, by go_num, p2, p1, p3, h1, h2.setCell (.inl (.inr (.inl rfl))) _, fun q hq => ?_, ?_, runL_live HNX.out _ _ HG.out.live HB.out⟩
              · have hob : (Value.slice A3 (m + 1) c3).ownBlock = some q := by
                  rw [← hq]; cases A3 <;> rfl
                have hw1 := HG.out.only.size
                have hw2 := HP2.out.2.2.2.size
                rcases HW3.out q hob with h | h
                · have e9 : g = q := by simpa [Value.ownBlock] using h
                  subst e9
                  rcases HG1.out with h' | h'
                  · exact HG.out.own g h'
                  · exact .inr (by omega)
                · exact .inr (by omega)
              · rw [hrs.out, ← HB.out]
            case measure => simp [intOf] <;> omega
      · obtain rfl : n = k := by omega
        have HG := hide hg
        clear hg hm
        go_wp2
        go_ret
        have h := HG.out
        have e1 : runL step (ordsG names (d + 1) l) s = (true, s1) := by
          have := h.run
          rwa [← HNL.out, ordsTo'_full] at this
        exact ⟨F1, by rw [e1]; rfl, by rw [e1]; exact h.inv, h.sub, h.ok.lt, h.only, fun _ => ⟨A1, c1, h.mem, h.ok, h.own⟩⟩

set_option maxHeartbeats 800000 in
/-- The function that orders hands back gives all orders of the names. -/
theorem orders1_iter {w0 : World} (hn : n ≤ 60) (hn1 : 1 ≤ n) (hnl : names.length = n) (hnb : w0.heap[N0]? = some (.cells #[.slice An n cn] 23 (0, 0))) (hni : IntsA w0 w0.heap.size An (up names)) :
    IterOk Try.prog 1 90 #[.pointer (some ⟨N0, 0, none⟩)] (ordsG names n []) (fun k => k < w0.heap.size ∧ NamesAt N0 An k) w0 := by
  intro l S σ live step Inv F s w hR1 hR2 hR3 hS hY hs hi hF hFR
  obtain ⟨W', hW⟩ : ∃ W, W = (((w.alloc (.cells #[.func (.yield l) #[] #[]] 95)).alloc (.cells #[.slice none 0 0] 23)).alloc
      (.cells #[.func (.func 91) #[] #[.pointer (some ⟨w.heap.size + 1, 0, none⟩), .pointer (some ⟨N0, 0, none⟩), .pointer (some ⟨w.heap.size, 0, none⟩), .pointer (some ⟨w.heap.size + 2, 0, none⟩)]] 30)) := ⟨_, rfl⟩
  have hN0 := lt_of_block hnb
  have hsz' : W'.heap.size = w.heap.size + 3 := by subst hW; simp
  have hb : Below w.heap.size w W' := by
    subst hW
    exact (((Below.refl _ _).alloc (Nat.le_refl _) _).alloc (by simp) _).alloc (by simp <;> omega) _
  have hm : GrMem W' l w.heap.size N0 names n cn An [] 0 none 0 := by
    refine ⟨rfl, hnl, ?_, ?_, ?_, ?_, by omega, ?_, World.ownsRow_nil _ _ _ _, Nat.le_refl _⟩
    · subst hW
      exact alloc_old _ _ _ (by simp <;> omega) (alloc_old _ _ _ (by simp) (alloc_new _ _ _ rfl))
    · subst hW
      exact alloc_old _ _ _ (by simp) (alloc_new _ _ _ (by simp))
    · subst hW
      exact alloc_new _ _ _ (by simp)
    · exact (hb.block N0 (by omega)).trans ((hR2 N0 ⟨hN0, .inl rfl⟩).trans hnb)
    · exact hni.keepR hR3 fun b o e hbb => (hb.block b (by omega)).trans (hR2 b ⟨hbb, .inr ⟨o, e⟩⟩)
  have hi0 : Inv F s W' := hY.stab F s w W' hi (fun q hq => hb.block q (by rcases hq with h | h; exact hF q h; exact h)) hb.size hb.tape
  have hok : FOk F W' w.heap.size N0 An (.slice none 0 0) := ⟨fun q hq => by have := hF q hq; omega, fun q hq => .inl (hF q hq), fun q hq hqB hna => by
    rcases hna with e | ⟨o, e⟩
    · subst e; exact hFR _ hq ⟨hN0, .inl rfl⟩
    · obtain ⟨b', o', x', e1, h2, _⟩ := hni.at_ (k := 0) (by rw [up_length]; omega)
      rw [e] at e1
      injection e1 with e1; injection e1 with e1
      exact hFR _ hq ⟨by omega, .inr ⟨o, e⟩⟩, fun q hq e => by cases e⟩
  have HG := hide (grow_any hY hn n [] 0 s F none 0 W' (by omega) hS hs hm hi0 hok)
  have HB := hide hb
  have HS := hide hsz'
  have HW := hide hW
  have HF := hide hF
  clear hm hi0 hok hb hsz' hi hF hY hR1 hR2 hR3 hS hs hFR hnb hni hW
  go_enter Try.func90, Try.ntmps90
  go_wp2_with fail
  have hg := HG.out
  rw [HW.out] at hg
  refine hg.mono ?_
  rw [← HW.out]
  rintro e w' ⟨F', rfl, h1, h2, h3, h4, _⟩
  have H1 := hide h1
  have H2 := hide h2
  have H3 := hide h3
  have H4 := hide h4
  clear h1 h2 h3 h4 hg
  go_wp2
  go_end0
  have hb := HB.out
  have hs := HS.out
  refine ⟨F', _, rfl, H1.out, fun q hq => ?_, H3.out, ⟨H4.out.os.trans hb.os, H4.out.tape.trans hb.tape, H4.out.output.trans hb.output, Nat.le_trans hb.size H4.out.size, fun q hq hn => ?_⟩⟩
  · rcases H2.out q hq with h | h
    · exact .inl h
    · exact .inr (by omega)
  · refine (H4.out.block q (by omega) (fun h => ?_)).trans (hb.block q hq)
    rcases h with h | h | h
    · exact hn h
    · omega
    · simp [Value.ownBlock] at h

set_option maxHeartbeats 400000 in
/-- orders hands back that function; the names lie in a new block. -/
theorem orders_any (w : World) (An : Option Addr) (n cn : Nat) (names : List Nat) (hn : n ≤ 60) (hn1 : 1 ≤ n) (hnl : names.length = n) (hni : IntsA w w.heap.size An (up names)) :
    Calls Try.prog 58 #[.slice An n cn] w fun e w' => e = .returned (.func (.func 90) #[] #[.pointer (some ⟨w.heap.size, 0, none⟩)]) ∧ w' = w.alloc (.cells #[.slice An n cn] 23) ∧
      IterOk Try.prog 1 90 #[.pointer (some ⟨w.heap.size, 0, none⟩)] (ordsG names n []) (fun k => k < w.heap.size + 1 ∧ NamesAt w.heap.size An k) w' := by
  have hit := orders1_iter (w0 := w.alloc (.cells #[.slice An n cn] 23)) (An := An) (cn := cn) (N0 := w.heap.size) hn hn1 hnl (alloc_new _ _ _ rfl) ((hni.keep fun p hp => World.cell?_alloc_lt _ _ _ hp).more (by simp))
  have HI := hide hit
  clear hit
  go_enter Try.func58, Try.ntmps58
  go_wp2
  go_ret
  refine ⟨rfl, rfl, ?_⟩
  have h := HI.out
  simpa using h
end
end Go.Proofs.Ytejijddfepgnkaa
