/-
  vote.Lie: the first voter who gains by another ballot, and the first such ballot.
-/
import Derived.Test.YtejijddfepgnkaaWinV
import Derived.Test.YtejijddfepgnkaaCloneV
namespace Go.Proofs.Ytejijddfepgnkaa
open Go.RowKit
set_option linter.unusedVariables false
set_option linter.unusedSimpArgs false
attribute [local go_sem] Oper.semAt_some

/-- Voter i gains by the ballot x. -/
def gains (W : List (List Nat)) (v n r i : Nat) (x : List Nat) : Bool := decide (idx (up (W.getD i [])) (winN (W.set i x) v n r) < idx (up (W.getD i [])) (winN W v n r))
def lieSt (p : List Nat → Bool) (s : Option (List Nat)) (x : List Nat) : Option (List Nat) × Option Code := if p x then (some x, some .ret) else (s, none)
theorem lie_run (p : List Nat → Bool) : ∀ xs : List (List Nat), runJ (lieSt p) xs none = match xs.find? p with | some x => (some x, some .ret) | none => (none, none)
  | [] => rfl
  | x :: xs => by
    have ih := lie_run p xs
    rw [List.find?_cons]
    cases h : p x with
    | true => simp [runJ, lieSt, h]
    | false => simp only [runJ, lieSt, h, Bool.false_eq_true, if_false, Option.isNone_none, if_true]; exact ih
def lieN (W : List (List Nat)) (v n r : Nat) : Option (Nat × List Nat) := (List.range v).findSome? fun i => ((ordsN n).find? (gains W v n r i)).map fun x => (i, x)

theorem results_cells3 {P : Program} {fn : Func} {p u q : Tmp} {ty tu tq : TypeId} (h : fn.results = #[.cell p ty, .cell u tu, .cell q tq]) (tmps : Array Value) (w : World) :
    (results fn tmps).run P w =
      ((asAddr (tmps.getD p undef)).run P w).andThen fun a w₁ => ((loadVar ty a).run P w₁).andThen fun v w₂ => ((asAddr (tmps.getD u undef)).run P w₂).andThen fun b w₃ => ((loadVar tu b).run P w₃).andThen fun x w₄ => ((asAddr (tmps.getD q undef)).run P w₄).andThen fun c w₅ => ((loadVar tq c).run P w₅).andThen fun y w₆ => .ok (.tuple #[v, x, y]) w₆ := by
  simp only [results, h]
  simp [Sem.run_bind, Result.andThen]

theorem lieN_some {W : List (List Nat)} {v n r k : Nat} {x : List Nat} (hk : k < v) (hno : ∀ i, i < k → (ordsN n).find? (gains W v n r i) = none) (hx : (ordsN n).find? (gains W v n r k) = some x) : lieN W v n r = some (k, x) := by
  have e : List.range v = List.range k ++ k :: (List.range (v - k - 1)).map (k + 1 + ·) := by
    have h1 : List.range (k + (v - k)) = List.range k ++ (List.range (v - k)).map (k + ·) := List.range_add
    rw [show k + (v - k) = v by omega] at h1
    obtain ⟨d, hd⟩ : ∃ d, v - k = d + 1 := ⟨v - k - 1, by omega⟩
    rw [h1, hd, List.range_succ_eq_map, List.map_cons, List.map_map]
    congr 2
    rw [show d + 1 - 1 = d by omega]
    exact List.map_congr_left fun a _ => by simp; omega
  rw [lieN, e, List.findSome?_append]
  have h0 : (List.range k).findSome? (fun i => ((ordsN n).find? (gains W v n r i)).map fun x => (i, x)) = none := by
    rw [List.findSome?_eq_none_iff]
    intro i hi
    rw [hno i (List.mem_range.1 hi)]; rfl
  rw [h0, List.findSome?_cons, hx]; rfl
theorem lieN_none {W : List (List Nat)} {v n r : Nat} (hno : ∀ i, i < v → (ordsN n).find? (gains W v n r i) = none) : lieN W v n r = none := by
  rw [lieN, List.findSome?_eq_none_iff]
  intro i hi
  rw [hno i (List.mem_range.1 hi)]; rfl

/-- The marks of the loops that are over. -/
def marks (Ds : List Nat) : List Deferred := Ds.map fun D => { target := .collected D, args := #[] }
structure DsOk (b : Nat) (Ds : List Nat) (w : World) : Prop where
  nd : Ds.Nodup
  at_ : ∀ D ∈ Ds, b ≤ D ∧ w.heap[D]? = some (.deferred (some []))
theorem DsOk.only {b : Nat} {Ds : List Nat} {w w' : World} {F : Nat → Prop} (h : DsOk b Ds w) (hO : Only F w w') (hF : ∀ D ∈ Ds, ¬ F D) : DsOk b Ds w' :=
  ⟨h.nd, fun D hD => ⟨(h.at_ D hD).1, (hO.block D (Array.getElem?_eq_some_iff.1 (h.at_ D hD).2).1 (hF D hD)).trans (h.at_ D hD).2⟩⟩
theorem leaves_marks {P : Program} {fn : Func} {tmps : Array Value} {R : Ending → World → Prop} : ∀ (Ds : List Nat) (b : Nat) (w : World), DsOk b Ds w →
    (∀ V : World, (∀ k, k ∉ Ds → V.heap[k]? = w.heap[k]?) → V.heap.size = w.heap.size → V.os = w.os → V.tape = w.tape → V.output = w.output → ∃ x, (results fn tmps).run P V = .ok x V ∧ R (.returned x) V) →
    LeavesInM Fence.wide 0 P fn tmps R (marks Ds) .returning w
  | [], _, w, _, h => h w (fun _ _ => rfl) rfl rfl rfl rfl
  | D :: Ds, b, w, hD, h => by
    have hDl := (Array.getElem?_eq_some_iff.1 (hD.at_ D (List.mem_cons_self ..)).2).1
    have hnd := List.nodup_cons.1 hD.nd
    refine leaves_mark (hD.at_ D (List.mem_cons_self ..)).2 (leaves_marks Ds b _ ⟨hnd.2, fun E hE => ⟨(hD.at_ E (List.mem_cons_of_mem _ hE)).1, (World.putObj_heap_other (fun e => hnd.1 (by rw [← e]; exact hE))).trans (hD.at_ E (List.mem_cons_of_mem _ hE)).2⟩⟩ fun V h1 h2 h3 h4 h5 => h V (fun k hk => ?_) (by rw [h2]; simp [World.putObj]) h3 h4 h5)
    have hk' : k ≠ D ∧ k ∉ Ds := by simpa using hk
    exact (h1 k hk'.2).trans (World.putObj_heap_other hk'.1)

/-- At the head of the loop over the voters. -/
structure LieL (w : World) (r : Nat) (h : Int) (hb : Nat) (Ds : List Nat) (wr : World) : Prop where
  rb : wr.heap[w.heap.size]? = some (.cells #[.int .i64 (r : Nat)] 3 (0, 0))
  c1 : wr.heap[w.heap.size + 1]? = some (.cells #[.int .i64 0] 3 (0, 0))
  c2 : wr.heap[w.heap.size + 1 + 1]? = some (.cells #[.slice none 0 0] 23 (0, 0))
  c3 : wr.heap[w.heap.size + 1 + 1 + 1]? = some (.cells #[.int .i64 0] 24 (0, 0))
  hh : wr.heap[hb]? = some (.cells #[.int .i64 h] 3 (0, 0))
  bel : Below w.heap.size w wr
  hb4 : w.heap.size + 4 ≤ hb
  ds : DsOk (w.heap.size + 4) Ds wr

/-- What holds between two rounds; w3: the world in which they begin; i: the voter. -/
structure LieI (w : World) (v n i zb : Nat) (us : List Value) (w3 : World) (F : Nat → Prop) (s : Option (List Nat)) (W' : World) : Prop where
  keep : ∀ k, k < w3.heap.size → k ≠ w.heap.size + 1 → k ≠ w.heap.size + 1 + 1 → k ≠ w.heap.size + 1 + 1 + 1 → k ≠ zb → W'.heap[k]? = w3.heap[k]?
  z : ∃ cur, W'.heap[zb]? = some (.cells cur 23 (0, 0)) ∧ v ≤ cur.size ∧ ∀ j, j < v → j ≠ i → cur[j]? = us[j]?
  f1 : F (w.heap.size + 1)
  f2 : F (w.heap.size + 1 + 1)
  f3 : F (w.heap.size + 1 + 1 + 1)
  fz : F zb
  fo : ∀ k, F k → k = w.heap.size + 1 ∨ k = w.heap.size + 1 + 1 ∨ k = w.heap.size + 1 + 1 + 1 ∨ k = zb ∨ w3.heap.size ≤ k
  no : s = none → W'.heap[w.heap.size + 1]? = some (.cells #[.int .i64 0] 3 (0, 0)) ∧ W'.heap[w.heap.size + 1 + 1]? = some (.cells #[.slice none 0 0] 23 (0, 0)) ∧ W'.heap[w.heap.size + 1 + 1 + 1]? = some (.cells #[.int .i64 0] 24 (0, 0))
  yes : ∀ x, s = some x → ∃ X cx, W'.heap[w.heap.size + 1]? = some (.cells #[.int .i64 (i : Nat)] 3 (0, 0)) ∧ W'.heap[w.heap.size + 1 + 1]? = some (.cells #[.slice X n cx] 23 (0, 0)) ∧ W'.heap[w.heap.size + 1 + 1 + 1]? = some (.cells #[.int .i64 0] 24 (0, 0)) ∧
    Ord x n ∧ n ≤ cx ∧ IntsA W' W'.heap.size X (up x) ∧ ∀ k, (Value.slice X n cx).ownBlock = some k → F k ∧ w3.heap.size ≤ k

theorem LieI.stab {w w3 : World} {v n i zb : Nat} {us : List Value} (h3 : w.heap.size + 4 ≤ w3.heap.size) (F : Nat → Prop) (s : Option (List Nat)) (X Y : World) (h : LieI w v n i zb us w3 F s X) (hk : ∀ k, F k ∨ k < w3.heap.size → Y.heap[k]? = X.heap[k]?) (hs : X.heap.size ≤ Y.heap.size) (_ : Y.tape = X.tape) : LieI w v n i zb us w3 F s Y := by
  refine ⟨fun k h1 h2 h3 h4 h5 => (hk k (.inr h1)).trans (h.keep k h1 h2 h3 h4 h5), ?_, h.f1, h.f2, h.f3, h.fz, h.fo, fun e => ?_, fun x e => ?_⟩
  · obtain ⟨cur, h1, h2⟩ := h.z
    exact ⟨cur, (hk zb (.inl h.fz)).trans h1, h2⟩
  · obtain ⟨h1, h2, h3⟩ := h.no e
    exact ⟨(hk _ (.inl h.f1)).trans h1, (hk _ (.inl h.f2)).trans h2, (hk _ (.inl h.f3)).trans h3⟩
  · obtain ⟨Z, cx, h1, h2, h3, h4, h5, h6, h7⟩ := h.yes x e
    exact ⟨Z, cx, (hk _ (.inl h.f1)).trans h1, (hk _ (.inl h.f2)).trans h2, (hk _ (.inl h.f3)).trans h3, h4, h5, h6.keepR hs fun b o e hb => hk b (.inl (h7 b (by subst e; rfl)).1), h7⟩

theorem set_row {W : List (List Nat)} {n i j : Nat} (hlen : W.length = n) (l : List Nat) (hj : j < n) : (W.set i l).getD j [] = if j = i then l else W.getD j [] := by
  simp only [List.getD_eq_getElem?_getD, List.getElem?_set]
  by_cases e : j = i
  · subst e; simp [hlen, hj]
  · have : ¬ i = j := fun h => e h.symm
    simp [e, this]
theorem bset_ok {W : List (List Nat)} {v n i : Nat} (h : BOk W v n) {l : List Nat} (hl : Ord l n) : BOk (W.set i l) v n :=
  ⟨by rw [List.length_set]; exact h.len, h.pos, h.le, h.npos, h.nle, fun j hj => by
    rw [set_row h.len l hj]
    split
    · exact hl
    · exact h.rows j hj⟩

/-- The other ballots, behind the store, read as the ballots with another row i. -/
theorem LieI.read {w w3 W' : World} {v n i zb cy : Nat} {us : List Value} {F : Nat → Prop} {s : Option (List Nat)} {Y : Option Addr} {W : List (List Nat)} {l : List Nat} (h : LieI w v n i zb us w3 F s W') (hW : BOk W v n) (hi : i < v) (hl : Ord l n) (hcy : n ≤ cy)
    (hus : ∀ j, j < v → ∃ A' c', us[j]? = some (.slice A' n c') ∧ n ≤ c' ∧ IntsA w3 w.heap.size A' (up (W.getD j []))) (hz : w.heap.size + 4 ≤ zb) (hzb : zb < w3.heap.size) (h3 : w3.heap.size ≤ W'.heap.size)
    (hY : IntsA W' W'.heap.size Y (up l)) (hoff : ∀ b o, Y = some ⟨b, o, none⟩ → b ≠ zb) :
    RowsA (W'.setCell ⟨zb, i, none⟩ (.slice Y n cy)) W'.heap.size (some ⟨zb, 0, none⟩) (upp (W.set i l)) := by
  obtain ⟨cur, hzc, h1, h2⟩ := h.z
  intro j hj
  rw [upp_length, List.length_set, hW.len] at hj
  rw [upp_getD, set_row hW.len l hj]
  have hset := blk_set hzc i (.slice Y n cy)
  have hcell : (W'.setCell ⟨zb, i, none⟩ (.slice Y n cy)).cell? ⟨zb, 0 + j, none⟩ = (cur.setIfInBounds i (.slice Y n cy))[j]? := by rw [Nat.zero_add]; exact blk_cell hset j
  by_cases e : j = i
  · subst e
    rw [if_pos rfl, up_length, hl.len]
    refine ⟨zb, 0, Y, cy, rfl, by omega, ?_, hcy, hY.keepR (Nat.le_refl _) fun b o e hb => blk_far _ (hoff b o e)⟩
    rw [hcell, Array.getElem?_setIfInBounds_self_of_lt (by omega)]
  · rw [if_neg e, up_length, (hW.rows j hj).len]
    obtain ⟨A', c', e1, hc', hI⟩ := hus j hj
    refine ⟨zb, 0, A', c', rfl, by omega, ?_, hc', (hI.keep (w' := W'.setCell ⟨zb, i, none⟩ (.slice Y n cy)) fun p hp => World.cell?_of_block ((blk_far _ (by omega)).trans (h.keep p.block (by omega) (by omega) (by omega) (by omega) (by omega)))).more (by omega)⟩
    rw [hcell, Array.getElem?_setIfInBounds_ne (fun h => e h.symm), h2 j hj e, e1]

/-- Behind the store of another row k, and whatever is new. -/
theorem LieI.laid {w w3 W2 V : World} {v n k zb : Nat} {us : List Value} {F : Nat → Prop} {s : Option (List Nat)} (h : LieI w v n k zb us w3 F s W2) (h3 : w.heap.size + 4 ≤ zb) (hz : zb < w3.heap.size) (hlt : ∀ q, F q → q < W2.heap.size) (h32 : w3.heap.size ≤ W2.heap.size) (u : Value)
    (hV : ∀ q, q < W2.heap.size → q ≠ zb → V.heap[q]? = W2.heap[q]?) (hVz : V.heap[zb]? = (W2.setCell ⟨zb, k, none⟩ u).heap[zb]?) (hs : W2.heap.size ≤ V.heap.size) : LieI w v n k zb us w3 F s V := by
  have hf1 := hlt _ h.f1
  have hf2 := hlt _ h.f2
  have hf3 := hlt _ h.f3
  refine ⟨fun q h1 h2 h3 h4 h5 => (hV q (by omega) h5).trans (h.keep q h1 h2 h3 h4 h5), ?_, h.f1, h.f2, h.f3, h.fz, h.fo, fun e => ?_, fun x e => ?_⟩
  · obtain ⟨cur, h1, h2, h4⟩ := h.z
    refine ⟨_, hVz.trans (blk_set h1 k u), by simpa using h2, fun j hj hjk => ?_⟩
    rw [Array.getElem?_setIfInBounds_ne (fun e => hjk e.symm)]
    exact h4 j hj hjk
  · obtain ⟨h1, h2, h4⟩ := h.no e
    exact ⟨(hV _ hf1 (by omega)).trans h1, (hV _ hf2 (by omega)).trans h2, (hV _ hf3 (by omega)).trans h4⟩
  · obtain ⟨Z, cx, h1, h2, h4, h5, h6, h7, h8⟩ := h.yes x e
    refine ⟨Z, cx, (hV _ hf1 (by omega)).trans h1, (hV _ hf2 (by omega)).trans h2, (hV _ hf3 (by omega)).trans h4, h5, h6, h7.keepR hs fun b o e hb => hV b hb ?_, h8⟩
    have := (h8 b (by subst e; rfl)).2
    omega
theorem LieI.cells {w w3 W2 : World} {v n k zb : Nat} {us : List Value} {F : Nat → Prop} {s : Option (List Nat)} (h : LieI w v n k zb us w3 F s W2) :
    ∃ u1 u2 u3, W2.heap[w.heap.size + 1]? = some (.cells #[u1] 3 (0, 0)) ∧ W2.heap[w.heap.size + 1 + 1]? = some (.cells #[u2] 23 (0, 0)) ∧ W2.heap[w.heap.size + 1 + 1 + 1]? = some (.cells #[u3] 24 (0, 0)) := by
  cases s with
  | none => obtain ⟨h1, h2, h3⟩ := h.no rfl; exact ⟨_, _, _, h1, h2, h3⟩
  | some x => obtain ⟨X, cx, h1, h2, h3, _⟩ := h.yes x rfl; exact ⟨_, _, _, h1, h2, h3⟩
theorem own_parts {w : World} {base n c zb : Nat} {e : TypeId} {xs : List Value} (h : w.ownsRow base e 1 (.slice (some ⟨zb, 0, none⟩) n c) n xs) (h1 : 1 ≤ n) :
    ∃ g cur, (some ⟨zb, 0, none⟩ : Option Addr) = some ⟨g, 0, none⟩ ∧ base ≤ g ∧ w.heap[g]? = some (.cells cur e (0, 0)) ∧ n ≤ cur.size ∧ ∀ j, j < n → cur[j]? = xs[j]? := by
  obtain ⟨hl, h2⟩ := h
  rcases h2 with ⟨hv, h0⟩ | ⟨g, cap, cur, hv, hg, hh, hc, hmx, hs, ht⟩
  · omega
  · injection hv with e1 e2 e3
    refine ⟨g, cur, e1, hg, hh, by omega, fun j hj => ?_⟩
    rw [← ht]
    simp [List.getElem?_take, hj]

def LiePost (W : List (List Nat)) (v n r : Nat) (w : World) (e : Ending) (w' : World) : Prop := Below w.heap.size w w' ∧ (match lieN W v n r with
      | none => e = .returned (.tuple #[.int .i64 0, .slice none 0 0, .int .i64 4])
      | some (i, x) => ∃ X cx, e = .returned (.tuple #[.int .i64 (i : Nat), .slice X n cx, .int .i64 0]) ∧ i < v ∧ Ord x n ∧ gains W v n r i x = true ∧ n ≤ cx ∧ IntsA w' w'.heap.size X (up x) ∧ ∀ k, (Value.slice X n cx).ownBlock = some k → w.heap.size ≤ k)

set_option maxRecDepth 100000 in
set_option maxHeartbeats 3200000 in
theorem Lie_yes (A : Option Addr) (v n c r : Nat) (W : List (List Nat)) (w : World) (hr : r ≤ 3) (hW : BOk W v n) (hv : votesB (upp W) = true) (hA : RowsA w w.heap.size A (upp W)) :
    Calls Try.prog 20 #[.slice A v c, .int .i64 (r : Nat)] w (LiePost W v n r w) := by
  have HWI := hide (fun (w' : World) (h : Below w.heap.size w w') => WinN_yes A v n c r W w' hr hW hv (hA.next h))
  have HN := hide (fun (w' : World) (h : Below w.heap.size w w') => names_any A v n c w.heap.size W w' hW (hA.below h))
  have hn5 := hW.nle
  have hn1 := hW.npos
  have h9 := hW.le
  have h1 := hW.pos
  have HU := hide (fun (w' : World) => upTo_any n w' (by omega))
  have HCL := hide (fun (w' : World) (h : Below w.heap.size w w') => cloneW_any A v c w.heap.size (upp W) w' (by rw [upp_length, hW.len]) h1 (by omega) (hA.below h))
  obtain ⟨h, hh⟩ : ∃ h, winN W v n r = h := ⟨_, rfl⟩
  rw [hh] at HWI
  have HH := hide hh
  have HA := hide hA
  have HW := hide hW
  clear hh hA hW hv
  refine calls_of_marks Try.func20 rfl ?_
  simp only [Try.ntmps20, List.size_toArray, List.length_cons, List.length_nil, Nat.reduceAdd, Nat.reduceSub, Array.replicate_succ, Array.replicate_zero, List.push_toArray, List.append_toArray, List.nil_append, List.cons_append]
  go_wp2_with fail
  obtain ⟨W1, hW1⟩ : ∃ W1, (((w.alloc (.cells #[.int .i64 (r : Nat)] 3)).alloc (.cells #[.int .i64 0] 3)).alloc (.cells #[.slice none 0 0] 23)).alloc (.cells #[.int .i64 0] 24) = W1 := ⟨_, rfl⟩
  have hb1 : Below w.heap.size w W1 := by subst hW1; exact ((((Below.refl _ _).alloc (Nat.le_refl _) _).alloc (by simp) _).alloc (by simp <;> omega) _).alloc (by simp <;> omega) _
  have hs1 : W1.heap.size = w.heap.size + 4 := by subst hW1; simp
  have p0 : W1.heap[w.heap.size]? = some (.cells #[.int .i64 (r : Nat)] 3 (0, 0)) := by subst hW1; exact alloc_old _ _ _ (by simp <;> omega) (alloc_old _ _ _ (by simp <;> omega) (alloc_old _ _ _ (by simp) (alloc_new _ _ _ rfl)))
  have p1 : W1.heap[w.heap.size + 1]? = some (.cells #[.int .i64 0] 3 (0, 0)) := by subst hW1; exact alloc_old _ _ _ (by simp <;> omega) (alloc_old _ _ _ (by simp) (alloc_new _ _ _ (by simp)))
  have p2 : W1.heap[w.heap.size + 1 + 1]? = some (.cells #[.slice none 0 0] 23 (0, 0)) := by subst hW1; exact alloc_old _ _ _ (by simp) (alloc_new _ _ _ (by simp))
  have p3 : W1.heap[w.heap.size + 1 + 1 + 1]? = some (.cells #[.int .i64 0] 24 (0, 0)) := by subst hW1; exact alloc_new _ _ _ (by simp)
  rw [hW1]
  have HB1 := hide hb1
  have HS1 := hide hs1
  have P0 := hide p0
  have P1 := hide p1
  have P2 := hide p2
  have P3 := hide p3
  clear hW1 hb1 hs1 p0 p1 p2 p3
  go_upto_region 3 with (go_at_call 22; refine (HWI.out _ HB1.out).mono ?_; rintro e w1 ⟨rfl, hb⟩; have HB2 := hide hb; clear hb; have hsz1 : w.heap.size + 4 ≤ w1.heap.size := (by have := HB2.out.size; have := HS1.out; omega); have g3 : ∀ o, (w1.alloc o).cell? ⟨w.heap.size + 1 + 1 + 1, 0, none⟩ = some (.int .i64 0) := (fun o => blk_cell (alloc_old _ o _ (by omega) ((HB2.out.block _ (by have := HS1.out; omega)).trans P3.out)) 0); have g4 : ∀ o, (w1.alloc o).frozen? ⟨w.heap.size + 1 + 1 + 1, 0, none⟩ = false := (fun o => blk_free (alloc_old _ o _ (by omega) ((HB2.out.block _ (by have := HS1.out; omega)).trans P3.out)) 0))
  -- THE LOOP
  have HL2 : Hid (LieL w r h w1.heap.size [] ((w1.alloc (.cells #[.int .i64 h] 3)).setCell ⟨w.heap.size + 1 + 1 + 1, 0, none⟩ (.int .i64 0))) := by
    have hh1 := HS1.out
    have hb2 := HB2.out
    have old : ∀ k, k < W1.heap.size → k ≠ w.heap.size + 1 + 1 + 1 → ((w1.alloc (.cells #[.int .i64 h] 3)).setCell ⟨w.heap.size + 1 + 1 + 1, 0, none⟩ (.int .i64 0)).heap[k]? = W1.heap[k]? := fun k h1 h2 =>
      (blk_far _ h2).trans (alloc_old _ _ _ (by have := hb2.size; omega) (hb2.block k h1))
    refine ⟨(old _ (by omega) (by omega)).trans P0.out, (old _ (by omega) (by omega)).trans P1.out, (old _ (by omega) (by omega)).trans P2.out, ?_, ?_, ?_, hsz1, ⟨List.nodup_nil, fun D hD => nomatch hD⟩⟩
    · exact blk_set (alloc_old _ _ _ (by omega) ((hb2.block _ (by omega)).trans P3.out)) 0 _
    · exact (blk_far _ (by omega)).trans (alloc_new _ _ _ rfl)
    · exact (((HB1.out.trans (hb2.mono HB1.out.size)).alloc (by omega) _).setCell (by show w.heap.size ≤ w.heap.size + 1 + 1 + 1; omega) _)
  generalize (w1.alloc (.cells #[.int .i64 h] 3)).setCell ⟨w.heap.size + 1 + 1 + 1, 0, none⟩ (.int .i64 0) = w2 at HL2 ⊢
  have q6 := blk_cell HL2.out.c3 0
  simp only [List.getElem?_toArray, List.getElem?_cons_zero] at q6
  have HB2' := hide HB2.out.size
  clear g3 g4
  go_wp2_with fail
  clear q6
  refine wp_loop (fun a' w' => ∃ (u9 u10 u11 u26 u27 u28 u29 u30 u31 u32 u33 u34 u35 u36 u54 : Value) (ds : List Deferred), (∃ (k : Nat) (Ds : List Nat), k ≤ v ∧ u26 = .int .i64 k ∧ ds = marks Ds ∧ LieL w r h w1.heap.size Ds w' ∧ ∀ i, i < k → (ordsN n).find? (gains W v n r i) = none) ∧ a' = ⟨#[.slice A v c, .int .i64 (r : Nat), undef, .pointer (some ⟨w.heap.size, 0, none⟩), .pointer (some ⟨w.heap.size + 1, 0, none⟩), .pointer (some ⟨w.heap.size + 1 + 1, 0, none⟩), .pointer (some ⟨w.heap.size + 1 + 1 + 1, 0, none⟩), .slice A v c, .pointer (some ⟨w1.heap.size, 0, none⟩), u9, u10, u11, undef, undef, .slice A v c, .tuple #[.int .i64 h, .int .i64 0], .slice A v c, .int .i64 (r : Nat), .tuple #[.int .i64 h, .int .i64 0], .int .i64 h, .int .i64 0, .int .i64 0, .bool false, undef, .slice A v c, .int .i64 (v : Nat), u26, u27, u28, u29, u30, u31, u32, u33, u34, u35, u36, undef, undef, undef, undef, undef, undef, undef, undef, undef, undef, undef, undef, undef, undef, undef, undef, undef, u54], ds⟩) (fun a' _ => v - (intOf (a'.tmps.getD 26 undef)).toNat) ?_ ?_
  · exact ⟨_, _, _, _, _, _, _, _, _, _, _, _, _, _, _, _, ⟨0, [], by omega, rfl, rfl, HL2.out, fun i hi => absurd hi (by omega)⟩, rfl⟩
  clear HL2
  intro a' wr hinv
  obtain ⟨u9, u10, u11, u26, u27, u28, u29, u30, u31, u32, u33, u34, u35, u36, u54, ds, ⟨k, Ds, hk, rfl, rfl, hL, hno⟩, rfl⟩ := hinv
  have hAr : RowsA wr w.heap.size A (upp W) := HA.out.below hL.bel
  have HL := hide hL
  have HNO : Hid (∀ i, i < k → (ordsN n).find? (gains W v n r i) = none) := hno
  clear hno
  by_cases hkv : k < v
  · obtain ⟨bb, oo, Ak, n', ck, rfl, hbb, hcc, hx, hle, hI⟩ := hAr.at_ (k := k) (by rw [upp_length, HW.out.len]; exact hkv)
    have hWk := HW.out.rows k hkv
    rw [upp_getD] at hx hI
    obtain rfl : n = n' := by have := hx.out; rw [up_length, hWk.len] at this; exact this
    have HI := hide hI
    clear hI hx hAr hL
    obtain ⟨w4, hw4⟩ : ∃ w4, w4 = (wr.alloc (.cells #[.int .i64 (k : Nat)] 3)).alloc (.cells #[.slice Ak n ck] 23) := ⟨_, rfl⟩
    have hb4 : Below wr.heap.size wr w4 := by subst hw4; exact ((Below.refl _ _).alloc (Nat.le_refl _) _).alloc (by simp) _
    have hs4 : w4.heap.size = wr.heap.size + 2 := by subst hw4; simp
    have m0 : w4.heap[wr.heap.size]? = some (.cells #[.int .i64 (k : Nat)] 3 (0, 0)) := by subst hw4; exact alloc_old _ _ _ (by simp) (alloc_new _ _ _ rfl)
    have m1 : w4.heap[wr.heap.size + 1]? = some (.cells #[.slice Ak n ck] 23 (0, 0)) := by subst hw4; exact alloc_new _ _ _ (by simp)
    have HB4 := hide hb4
    have HS4 := hide hs4
    have M0 := hide m0
    have M1 := hide m1
    have hwr4 : w.heap.size ≤ wr.heap.size := HL.out.bel.size
    have HW4 := hide (HL.out.bel.trans (hb4.mono hwr4))
    clear hb4 hs4 m0 m1
    go_wp2_with fail
    rw [← hw4]
    clear hw4
    go_wp2_with (first
      | (go_at_call 57; refine (HCL.out _ HW4.out).mono ?_; rintro e w5 ⟨zb, cz, us, rfl, hcz, hzo, hzb, hb5, hus⟩; have HZO := hide hzo; have HB5 := hide hb5; have HUS := hide hus; have hb6 : Below w.heap.size w (w5.alloc (.cells #[.slice (some ⟨zb, 0, none⟩) v cz] 67)) := (HW4.out.trans (hb5.mono HW4.out.size)).alloc (by have := HW4.out.size; have := hb5.size; omega) _; have HB6 := hide hb6; clear hzo hb5 hus hb6)
      | (go_at_call 60; refine (HN.out _ HB6.out).mono ?_; rintro e w' ⟨rfl, rfl⟩)
      | (go_at_call 59; refine (HU.out _).mono ?_; rintro e w7 ⟨H, c2, rfl, hc2, hown, hb2⟩; have HOW := hide hown; have HB7 := hide hb2; clear hown hb2)
      | (go_at_call 58; refine (orders_any w7 H n c2 (List.range n) (by omega) (by omega) (by simp) (ints_of_own HOW.out)).mono ?_; rintro e w8 ⟨rfl, hw8, hit⟩; have HIT := hide hit; have HW8 := hide hw8; clear hit hw8))
    have hs7 := HB7.out.size
    have hs5 := HB5.out.size
    have hs4 := HS4.out
    have hs6 : (w5.alloc (.cells #[.slice (some ⟨zb, 0, none⟩) v cz] 67)).heap.size = w5.heap.size + 1 := by simp
    obtain ⟨zg, cur, hzv, hzg, hzh, hzl, hzm⟩ := own_parts HZO.out h1
    obtain rfl : zb = zg := by injection hzv with e; injection e with e
    have hs8 : w8.heap.size = w7.heap.size + 1 := by rw [HW8.out]; simp
    have hb8 : Below w7.heap.size w7 w8 := by rw [HW8.out]; exact (Below.refl _ _).alloc (Nat.le_refl _) _
    have hb68 : Below (w5.heap.size + 1) (w5.alloc (.cells #[.slice (some ⟨zb, 0, none⟩) v cz] 67)) w8 := by
      have h := HB7.out.trans (hb8.mono (by omega))
      rw [hs6] at h
      exact h
    have hb58 : ∀ q, q < w5.heap.size → w8.heap[q]? = w5.heap[q]? := fun q hq => (hb68.block q (by omega)).trans (alloc_old _ _ _ hq rfl)
    have hb48 : ∀ q, q < w4.heap.size → w8.heap[q]? = w4.heap[q]? := fun q hq => (hb58 q (by omega)).trans (HB5.out.block q hq)
    have hbr8 : ∀ q, q < wr.heap.size → w8.heap[q]? = wr.heap[q]? := fun q hq => (hb48 q (by omega)).trans (HB4.out.block q hq)
    have hbel8 : Below w.heap.size w w8 := (HB6.out.trans (HB7.out.mono HB6.out.size)).trans (hb8.mono (by have := HB6.out.size; omega))
    have hhb := lt_of_block HL.out.hh
    have hhb4 := HL.out.hb4
    have e0 : w8.heap[wr.heap.size]? = some (.cells #[.int .i64 (k : Nat)] 3 (0, 0)) := (hb48 _ (by omega)).trans M0.out
    have e1 : w8.heap[wr.heap.size + 1]? = some (.cells #[.slice Ak n ck] 23 (0, 0)) := (hb48 _ (by omega)).trans M1.out
    have e2 : w8.heap[w5.heap.size]? = some (.cells #[.slice (some ⟨zb, 0, none⟩) v cz] 67 (0, 0)) := (hb68.block _ (by omega)).trans (alloc_new _ _ _ rfl)
    have e3 : w8.heap[w.heap.size]? = some (.cells #[.int .i64 (r : Nat)] 3 (0, 0)) := (hbr8 _ (by omega)).trans HL.out.rb
    have e4 : w8.heap[w1.heap.size]? = some (.cells #[.int .i64 h] 3 (0, 0)) := (hbr8 _ hhb).trans HL.out.hh
    have hzlt : zb < w5.heap.size := lt_of_block hzh
    have h0 : LieI w v n k zb us w8 (fun q => q = w.heap.size + 1 ∨ q = w.heap.size + 1 + 1 ∨ q = w.heap.size + 1 + 1 + 1 ∨ q = zb) none w8 :=
      ⟨fun _ _ _ _ _ _ => rfl, ⟨cur, (hb58 zb hzlt).trans hzh, hzl, fun j hj _ => hzm j hj⟩, .inl rfl, .inr (.inl rfl), .inr (.inr (.inl rfl)), .inr (.inr (.inr rfl)), fun q hq => by rcases hq with h | h | h | h; exact .inl h; exact .inr (.inl h); exact .inr (.inr (.inl h)); exact .inr (.inr (.inr (.inl h))),
        fun _ => ⟨(hbr8 _ (by omega)).trans HL.out.c1, (hbr8 _ (by omega)).trans HL.out.c2, (hbr8 _ (by omega)).trans HL.out.c3⟩, fun x e => nomatch e⟩
    refine wp_loop_over (P := Try.prog) (m := 1) (w0 := w8) (xs := ordsG (List.range n) n []) (R := fun q => q < w7.heap.size + 1 ∧ NamesAt w7.heap.size H q) (lieSt (gains W v n r k)) (LieI w v n k zb us w8) (fun o => Ord o n) (fun q => q = w.heap.size + 1 ∨ q = w.heap.size + 1 + 1 ∨ q = w.heap.size + 1 + 1 + 1 ∨ q = zb) none
      rfl rfl (goes_of Try.func90 (by kernel_rfl) (by kernel_rfl)) HIT.out (fun o ho => by rw [ordsG_range] at ho; exact mem_ordsN.1 ho) (fun q h => by have := h.1; omega) (fun _ _ => rfl) (Nat.le_refl _)
      (fun F s X Y => LieI.stab (by omega) F s X Y) h0 (fun q hq => by rcases hq with h | h | h | h <;> omega) (fun q hq hR => ?_) ?_ ?_
    · rcases hR.2 with h | ⟨o, h⟩
      · rcases hq with h' | h' | h' | h' <;> omega
      · have := own_lt HOW.out q (by rw [h]; rfl)
        rw [hs6] at this
        rcases hq with h' | h' | h' | h' <;> omega
    · intro l F s x X cx W9 K hR hK
      have hxl : x.length = n := hR.mem.len
      rw [hxl] at hK ⊢
      gi_wp2
      refine hK _ W9 (Only.refl _ _) ?_
      clear hK hR
      intro W2 hR hO hs
      have hi := hR.inv
      have hxo := hR.mem
      have hcap : n ≤ cx := by have := hR.cap; omega
      have hbase := hR.base
      have z0 := blk_cell ((hi.keep _ (by omega) (by omega) (by omega) (by omega) (by omega)).trans e0) 0
      have z1 := blk_cell ((hi.keep _ (by omega) (by omega) (by omega) (by omega) (by omega)).trans e1) 0
      have z2 := blk_cell ((hi.keep _ (by omega) (by omega) (by omega) (by omega) (by omega)).trans e2) 0
      have z3 := blk_cell ((hi.keep _ (by omega) (by omega) (by omega) (by omega) (by omega)).trans e3) 0
      have z4 := blk_cell ((hi.keep _ (by omega) (by omega) (by omega) (by omega) (by omega)).trans e4) 0
      simp only [List.getElem?_toArray, List.getElem?_cons_zero] at z0 z1 z2 z3 z4
      obtain ⟨cur2, hz2, hzl2, hzm2⟩ := hi.z
      have hoffX : ∀ q, (Value.slice X n cx).ownBlock = some q → w8.heap.size ≤ q := fun q hq => (hR.off q (by have := hxo.len; rw [this]; exact hq)).1
      have zk : ∃ u, W2.cell? ⟨zb, k, none⟩ = some u := ⟨_, (blk_cell hz2 k).trans (Array.getElem?_eq_getElem (by omega))⟩
      obtain ⟨uk, zk⟩ := zk
      have zf := blk_free hz2 k
      have hread := hi.read (cy := cx) (Y := X) (W := W) (l := x) HW.out hkv hxo hcap (fun j hj => by
        obtain ⟨A', c', g1, g2, g3⟩ := HUS.out j hj
        rw [upp_getD, up_length, (HW.out.rows j hj).len] at g1 g2
        rw [upp_getD] at g3
        exact ⟨A', c', g1, g2, g3.keep fun p hp => World.cell?_of_block (hb48 _ (by omega))⟩) (by omega) (by omega) hbase hR.ints (fun b o e => by
        have := hoffX b (by rw [e]; rfl); omega)
      have HI2 := hide hi
      have HR2 := hide hR
      have HXO := hide hxo
      have HZ2 := hide hz2
      obtain ⟨g, hg⟩ : ∃ g, winN (W.set k x) v n r = g := ⟨_, rfl⟩
      obtain ⟨w9, hw9⟩ : ∃ w9, w9 = W2.setCell ⟨zb, k, none⟩ (.slice X n cx) := ⟨_, rfl⟩
      have hs9 : w9.heap.size = W2.heap.size := by subst hw9; simp [World.setCell]
      have far9 : ∀ q, q ≠ zb → w9.heap[q]? = W2.heap[q]? := fun q hq => by subst hw9; exact blk_far _ hq
      rw [← hw9, ← hs9] at hread
      have HWN := hide (winnerN_any (some ⟨zb, 0, none⟩) v n cz r (W.set k x) w9 hr (bset_ok HW.out hxo) hread)
      rw [hg] at HWN
      have hkz : (k : Int) < (v : Nat) := by omega
      obtain ⟨p1, hp1⟩ : ∃ p1, idx (up (W.getD k [])) g = p1 := ⟨_, rfl⟩
      obtain ⟨p2, hp2⟩ : ∃ p2, idx (up (W.getD k [])) h = p2 := ⟨_, rfl⟩
      have HP1 := hide hp1
      have HP2 := hide hp2
      have HG : Hid (gains W v n r k x = decide (p1 < p2)) := by show _ = _; rw [gains, hg, HH.out, hp1, hp2]
      have HW9 := hide hw9
      have HS9 := hide hs9
      clear hi hR hxo hread hg hp1 hp2 hz2 hO hs hs9
      gi_wp2_with fail
      rw [← HW9.out]
      clear hw9
      refine ⟨trivial, ?_⟩
      refine (CallsIn.inRound l (callsIn_wide.2 HWN.out)).mono ?_
      rintro e wA ⟨rfl, hbA⟩
      have hsA := hbA.size
      have hs9 := HS9.out
      have hltr : ∀ q, q < w8.heap.size → q < wA.heap.size := fun q hq => by omega
      have zA1 : wA.cell? ⟨wr.heap.size + 1, 0, none⟩ = some (.slice Ak n ck) := by
        rw [World.cell?_of_block (w := w9) (hbA.block _ (by show wr.heap.size + 1 < _; omega)), World.cell?_of_block (w := W2) (far9 _ (by show wr.heap.size + 1 ≠ zb; omega))]; exact z1
      have zA4 : wA.cell? ⟨w1.heap.size, 0, none⟩ = some (.int .i64 h) := by
        rw [World.cell?_of_block (w := w9) (hbA.block _ (by show w1.heap.size < _; omega)), World.cell?_of_block (w := W2) (far9 _ (by show w1.heap.size ≠ zb; omega))]; exact z4
      have hIA : IntsA wA w.heap.size Ak (up (W.getD k [])) := by
        refine HI.out.keep fun p hp => World.cell?_of_block ?_
        rw [hbA.block _ (by omega), far9 _ (by omega), HI2.out.keep _ (by omega) (by omega) (by omega) (by omega) (by omega), hbr8 _ (by omega)]
      have IX := hide (fun (g : Int) (w' : World) (hw' : Below wA.heap.size wA w') => index_any Ak n ck w.heap.size (up (W.getD k [])) g w' (by rw [up_length]; exact (HW.out.rows k hkv).len) (by omega) (hIA.below (hw'.mono (by have := HW4.out.size; omega))))
      have ltm : wr.heap.size + 1 < wA.heap.size := by omega
      have lth : w1.heap.size < wA.heap.size := by omega
      have hVV : ∀ V, Below wA.heap.size wA V → (∀ q, q < W2.heap.size → q ≠ zb → V.heap[q]? = W2.heap[q]?) ∧ V.heap[zb]? = (W2.setCell ⟨zb, k, none⟩ (.slice X n cx)).heap[zb]? ∧ W2.heap.size ≤ V.heap.size ∧ Only F W2 V := fun V hV => by
        have e1 : ∀ q, q < W2.heap.size → V.heap[q]? = w9.heap[q]? := fun q hq => (hV.block q (by omega)).trans (hbA.block q (by omega))
        refine ⟨fun q hq hz => (e1 q hq).trans (far9 q hz), (e1 zb (by omega)).trans (by rw [HW9.out]), by have := hV.size; omega, ?_⟩
        have hO9 : Only F W2 w9 := by rw [HW9.out]; exact (Only.refl _ _).setCell (.inl HI2.out.fz) _
        exact (hO9.trans (Only.of_below (F := F) hbA) (fun _ _ h => h)).trans (Only.of_below (F := F) hV) (fun _ _ h => h)
      have HVV := hide hVV
      have HBA := hide hbA
      clear hVV hbA z0 z1 z2 z3 z4 zk zf hIA
      by_cases hlt : p1 < p2
      · gi_wp2_with fail
        refine wpIn_region_below (by kernel_rfl) (by kernel_rfl) (by kernel_rfl) (fun h => (by obtain ⟨_, _, h⟩ := h; exact h)) ?_
        refine wpQuiet_val' (.slice Ak n ck) (by rfl) (fun w' hw' => by have e0 := (hw'.cell (p := ⟨wr.heap.size + 1, 0, none⟩) ltm).trans zA1; go_simp) ?_
        simp only [put_lit, List.set_cons_succ, List.set_cons_zero]
        refine wpQuiet_val' (.int .i64 g) (by rfl) (fun w' hw' => by go_simp) ?_
        simp only [put_lit, List.set_cons_succ, List.set_cons_zero]
        refine wpQuiet_call' 26 #[.slice Ak n ck, .int .i64 g] (.int .i64 p1) (by rfl) (fun w' hw' => by go_simp) (fun w' hw' => (IX.out g w' hw').mono fun e w9 h9 => ⟨by rw [h9.1, HP1.out], by rw [← h9.2]; exact hw'⟩) ?_
        simp only [put_lit, List.set_cons_succ, List.set_cons_zero]
        refine wpQuiet_val' (.slice Ak n ck) (by rfl) (fun w' hw' => by have e0 := (hw'.cell (p := ⟨wr.heap.size + 1, 0, none⟩) ltm).trans zA1; go_simp) ?_
        simp only [put_lit, List.set_cons_succ, List.set_cons_zero]
        refine wpQuiet_val' (.int .i64 h) (by rfl) (fun w' hw' => by have e0 := (hw'.cell (p := ⟨w1.heap.size, 0, none⟩) lth).trans zA4; go_simp) ?_
        simp only [put_lit, List.set_cons_succ, List.set_cons_zero]
        refine wpQuiet_call' 26 #[.slice Ak n ck, .int .i64 h] (.int .i64 p2) (by rfl) (fun w' hw' => by go_simp) (fun w' hw' => (IX.out h w' hw').mono fun e w9 h9 => ⟨by rw [h9.1, HP2.out], by rw [← h9.2]; exact hw'⟩) ?_
        simp only [put_lit, List.set_cons_succ, List.set_cons_zero]
        refine wpQuiet_val' (.bool true) (by rfl) (fun w' hw' => by go_simp) ?_
        simp only [put_lit, List.set_cons_succ, List.set_cons_zero]
        refine wpQuiet_nil ?_
        intro wB hbB
        obtain ⟨v1, v2, v3, v4⟩ := HVV.out wB hbB
        obtain ⟨u1, u2, u3, y1, y2, y3⟩ := HI2.out.cells
        have hf := HI2.out
        have hlt1 := HR2.out.lt _ hf.f1
        have hlt2 := HR2.out.lt _ hf.f2
        have hlt3 := HR2.out.lt _ hf.f3
        replace y1 := (v1 _ hlt1 (by omega)).trans y1
        replace y2 := (v1 _ hlt2 (by omega)).trans y2
        replace y3 := (v1 _ hlt3 (by omega)).trans y3
        have x1 := blk_cell y1 0
        have x2 := blk_cell y2 0
        have x3 := blk_cell y3 0
        have g1 := blk_free y1 0
        have g2 := blk_free y2 0
        have g3 := blk_free y3 0
        have x0 : wB.cell? ⟨wr.heap.size, 0, none⟩ = some (.int .i64 (k : Nat)) := by
          have := blk_cell (((v1 wr.heap.size (by omega) (by omega)).trans (hf.keep _ (by omega) (by omega) (by omega) (by omega) (by omega))).trans e0) 0
          exact this
        simp only [List.getElem?_toArray, List.getElem?_cons_zero] at x1 x2 x3
        have hlaid := hf.laid (by omega) (by omega) HR2.out.lt HR2.out.base _ v1 v2 v3
        have HLD := hide hlaid
        have V1 := hide v1
        have V4 := hide v4
        have Y1 := hide y1
        have Y2 := hide y2
        have Y3 := hide y3
        clear hlaid v1 v2 v4 y1 y2 y3 hf
        gi_wp2
        have hst : lieSt (gains W v n r k) s x = (some x, some .ret) := by rw [lieSt, HG.out, if_pos (by simpa using hlt)]
        rw [hst]
        have hL := HLD.out
        have hX := HXO.out
        have hn12 : w.heap.size + 1 ≠ w.heap.size + 1 + 1 := by omega
        have hn13 : w.heap.size + 1 ≠ w.heap.size + 1 + 1 + 1 := by omega
        have hn23 : w.heap.size + 1 + 1 ≠ w.heap.size + 1 + 1 + 1 := by omega
        obtain ⟨V, hV⟩ : ∃ V, ((wB.setCell ⟨w.heap.size + 1, 0, none⟩ (.int .i64 (k : Nat))).setCell ⟨w.heap.size + 1 + 1, 0, none⟩ (.slice X n cx)).setCell ⟨w.heap.size + 1 + 1 + 1, 0, none⟩ (.int .i64 0) = V := ⟨_, rfl⟩
        have farV : ∀ q, q ≠ w.heap.size + 1 → q ≠ w.heap.size + 1 + 1 → q ≠ w.heap.size + 1 + 1 + 1 → V.heap[q]? = wB.heap[q]? := fun q h1 h2 h3 => by subst hV; exact (blk_far _ h3).trans ((blk_far _ h2).trans (blk_far _ h1))
        have hVs : V.heap.size = wB.heap.size := by subst hV; simp [World.setCell]
        have t1 : V.heap[w.heap.size + 1]? = some (.cells #[.int .i64 (k : Nat)] 3 (0, 0)) := by subst hV; exact (blk_far _ hn13).trans ((blk_far _ hn12).trans (blk_set Y1.out 0 _))
        have t2 : V.heap[w.heap.size + 1 + 1]? = some (.cells #[.slice X n cx] 23 (0, 0)) := by subst hV; exact (blk_far _ hn23).trans (blk_set ((blk_far _ hn12.symm).trans Y2.out) 0 _)
        have t3 : V.heap[w.heap.size + 1 + 1 + 1]? = some (.cells #[.int .i64 0] 24 (0, 0)) := by subst hV; exact blk_set ((blk_far _ hn23.symm).trans ((blk_far _ hn13.symm).trans Y3.out)) 0 _
        have hVO : Only F W2 V := by subst hV; exact ((V4.out.setCell (.inl HI2.out.f1) _).setCell (.inl HI2.out.f2) _).setCell (.inl HI2.out.f3) _
        rw [hV]
        have hXlt : ∀ q, (Value.slice X n cx).ownBlock = some q → q < W2.heap.size := fun q hq => by
          by_cases hXn : X = none
          · subst hXn; simp [Value.ownBlock] at hq
          · obtain ⟨b', o', x', e1, h2, _⟩ := HR2.out.ints.at_ (k := 0) (by rw [up_length, hX.len]; omega)
            subst e1
            have : b' = q := by simpa [Value.ownBlock] using hq
            omega
        refine ⟨rfl, fun q => F q ∨ (Value.slice X n cx).ownBlock = some q, ⟨fun q h1 h2 h3 h4 h5 => (farV q h2 h3 h4).trans (hL.keep q h1 h2 h3 h4 h5), ?_, .inl hL.f1, .inl hL.f2, .inl hL.f3, .inl hL.fz, fun q hq => ?_, fun e => (nomatch e), fun x' e => ?_⟩, fun q hq => ?_, fun q hq => ?_, hVO⟩
        · obtain ⟨cur, h1, h2, h4⟩ := hL.z
          exact ⟨cur, (farV zb (by omega) (by omega) (by omega)).trans h1, h2, h4⟩
        · rcases hq with h | h
          · exact hL.fo q h
          · exact .inr (.inr (.inr (.inr (hoffX q h))))
        · injection e with e
          subst e
          refine ⟨X, cx, t1, t2, t3, hX, hcap, HR2.out.ints.keepR (by omega) fun b o e hb => ?_, fun q hq => ⟨.inr hq, hoffX q hq⟩⟩
          have := hoffX b (by rw [e]; rfl)
          exact (farV b (by omega) (by omega) (by omega)).trans (V1.out b hb (by omega))
        · rcases hq with h | h
          · exact .inl h
          · exact .inr (.inl h)
        · rw [hVs]
          rcases hq with h | h
          · have := HR2.out.lt q h; omega
          · have := hXlt q h; omega
      · gi_wp2_with fail
        refine wpIn_region_below (by kernel_rfl) (by kernel_rfl) (by kernel_rfl) (fun h => (by obtain ⟨_, _, h⟩ := h; exact h)) ?_
        refine wpQuiet_val' (.slice Ak n ck) (by rfl) (fun w' hw' => by have e0 := (hw'.cell (p := ⟨wr.heap.size + 1, 0, none⟩) ltm).trans zA1; go_simp) ?_
        simp only [put_lit, List.set_cons_succ, List.set_cons_zero]
        refine wpQuiet_val' (.int .i64 g) (by rfl) (fun w' hw' => by go_simp) ?_
        simp only [put_lit, List.set_cons_succ, List.set_cons_zero]
        refine wpQuiet_call' 26 #[.slice Ak n ck, .int .i64 g] (.int .i64 p1) (by rfl) (fun w' hw' => by go_simp) (fun w' hw' => (IX.out g w' hw').mono fun e w9 h9 => ⟨by rw [h9.1, HP1.out], by rw [← h9.2]; exact hw'⟩) ?_
        simp only [put_lit, List.set_cons_succ, List.set_cons_zero]
        refine wpQuiet_val' (.slice Ak n ck) (by rfl) (fun w' hw' => by have e0 := (hw'.cell (p := ⟨wr.heap.size + 1, 0, none⟩) ltm).trans zA1; go_simp) ?_
        simp only [put_lit, List.set_cons_succ, List.set_cons_zero]
        refine wpQuiet_val' (.int .i64 h) (by rfl) (fun w' hw' => by have e0 := (hw'.cell (p := ⟨w1.heap.size, 0, none⟩) lth).trans zA4; go_simp) ?_
        simp only [put_lit, List.set_cons_succ, List.set_cons_zero]
        refine wpQuiet_call' 26 #[.slice Ak n ck, .int .i64 h] (.int .i64 p2) (by rfl) (fun w' hw' => by go_simp) (fun w' hw' => (IX.out h w' hw').mono fun e w9 h9 => ⟨by rw [h9.1, HP2.out], by rw [← h9.2]; exact hw'⟩) ?_
        simp only [put_lit, List.set_cons_succ, List.set_cons_zero]
        refine wpQuiet_val' (.bool false) (by rfl) (fun w' hw' => by go_simp) ?_
        simp only [put_lit, List.set_cons_succ, List.set_cons_zero]
        refine wpQuiet_nil ?_
        intro wB hbB
        gi_wp2_with fail
        obtain ⟨v1, v2, v3, v4⟩ := HVV.out wB hbB
        have hst : lieSt (gains W v n r k) s x = (s, none) := by rw [lieSt, HG.out, if_neg (by simpa using hlt)]
        rw [hst]
        exact ⟨rfl, F, HI2.out.laid (by omega) (by omega) HR2.out.lt HR2.out.base _ v1 v2 v3, fun q hq => .inl hq, fun q hq => by have := HR2.out.lt q hq; omega, v4⟩
    · intro D F' W' hI2 hsub hlt hO hD hnD hDd
      have hrun : runJ (lieSt (gains W v n r k)) (ordsG (List.range n) n []) none = match (ordsN n).find? (gains W v n r k) with | some x => (some x, some .ret) | none => (none, none) := by rw [ordsG_range]; exact lie_run _ _
      rw [hrun] at hI2 ⊢
      have hDs : DsOk (w.heap.size + 4) (D :: Ds) W' := by
        refine ⟨List.nodup_cons.2 ⟨fun h => ?_, HL.out.ds.nd⟩, fun E hE => ?_⟩
        · have := (Array.getElem?_eq_some_iff.1 (HL.out.ds.at_ D h).2).1
          omega
        · rcases List.mem_cons.1 hE with rfl | hE
          · exact ⟨by omega, hDd⟩
          · have h1 := HL.out.ds.at_ E hE
            have h2 := (Array.getElem?_eq_some_iff.1 h1.2).1
            exact ⟨h1.1, (hO.block E (by omega) (by omega)).trans ((hbr8 E h2).trans h1.2)⟩
      have hbW : Below w.heap.size w W' := ⟨hO.os.trans hbel8.os, hO.tape.trans hbel8.tape, hO.output.trans hbel8.output, by have := hO.size; have := hbel8.size; omega, fun q hq => (hO.block q (by omega) (by omega)).trans (hbel8.block q hq)⟩
      have HDS := hide hDs
      have HBW := hide hbW
      have hOb : ∀ q, q < wr.heap.size → q ≠ w.heap.size + 1 → q ≠ w.heap.size + 1 + 1 → q ≠ w.heap.size + 1 + 1 + 1 → W'.heap[q]? = wr.heap[q]? := fun q h1 h2 h3 h4 => (hO.block q (by omega) (by omega)).trans (hbr8 q h1)
      have HOB := hide hOb
      clear hDs hbW hOb hrun
      cases hfd : (ordsN n).find? (gains W v n r k) with
      | none =>
        rw [hfd] at hI2
        obtain ⟨j1, j2, j3⟩ := hI2.no rfl
        have HFD := hide hfd
        have J1 := hide j1
        have J2 := hide j2
        have J3 := hide j3
        clear hfd hI2 j1 j2 j3 hO hsub hlt h0 e0 e1 e2 e3 e4
        simp only []
        go_wp2_with fail
        refine ⟨⟨_, _, _, _, ⟨k + 1, by omega, by go_num, D :: Ds, rfl, ⟨(HOB.out _ (by omega) (by omega) (by omega) (by omega)).trans HL.out.rb, J1.out, J2.out, J3.out, (HOB.out _ hhb (by omega) (by omega) (by omega)).trans HL.out.hh, HBW.out, HL.out.hb4, HDS.out⟩, fun i hi x hx => ?_⟩, rfl, rfl, rfl, rfl⟩, ?_⟩
        · by_cases e : i = k
          · subst e; simpa using List.find?_eq_none.1 HFD.out x hx
          · simpa using List.find?_eq_none.1 (HNO.out i (by omega)) x hx
        · simp [intOf]; omega
      | some x =>
        rw [hfd] at hI2
        obtain ⟨X, cx, j1, j2, j3, hxo, hcx, hXI, hXo⟩ := hI2.yes x rfl
        have hln := lieN_some hkv HNO.out hfd
        have hgx := List.find?_some hfd
        simp only []
        have J1 := hide j1
        have J2 := hide j2
        have J3 := hide j3
        have HXO := hide hxo
        have HXI := hide hXI
        have HXF := hide hXo
        have HLN := hide hln
        have HGX := hide hgx
        clear hfd hI2 j1 j2 j3 hO hlt h0 e0 e1 e2 e3 e4 hxo hXI hXo hln hgx
        go_wp2_with fail
        refine leaves_marks (D :: Ds) (w.heap.size + 4) W' HDS.out fun V hV hVs ho ht hout => ?_
        have hDn : ∀ q, q < w.heap.size + 4 → V.heap[q]? = W'.heap[q]? := fun q hq => hV q fun h => by have := (HDS.out.at_ q h).1; omega
        have x1 := blk_cell ((hDn _ (by omega)).trans J1.out) 0
        have x2 := blk_cell ((hDn _ (by omega)).trans J2.out) 0
        have x3 := blk_cell ((hDn _ (by omega)).trans J3.out) 0
        simp only [List.getElem?_toArray, List.getElem?_cons_zero] at x1 x2 x3
        have hbV : Below w.heap.size w V := ⟨ho.trans HBW.out.os, ht.trans HBW.out.tape, hout.trans HBW.out.output, by have := HBW.out.size; omega, fun q hq => (hDn q (by omega)).trans (HBW.out.block q hq)⟩
        refine ⟨.tuple #[.int .i64 (k : Nat), .slice X n cx, .int .i64 0], ?_, hbV, ?_⟩
        · rw [results_cells3 rfl]
          go_simp
        · rw [HLN.out]
          refine ⟨X, cx, rfl, hkv, HXO.out, HGX.out, hcx, HXI.out.keepR (by omega) fun b o e hb => ?_, fun q hq => ?_⟩
          · have h9 := HXF.out b (by rw [e]; rfl)
            refine hV b fun h => ?_
            rcases List.mem_cons.1 h with rfl | h
            · exact hnD h9.1
            · have := (Array.getElem?_eq_some_iff.1 (HL.out.ds.at_ b h).2).1
              omega
          · have := (HXF.out q hq).2
            have := hbel8.size
            omega
  · obtain rfl : v = k := by omega
    have HLN := hide (lieN_none HNO.out)
    have y1 := hL.c1
    have y2 := hL.c2
    have y3 := hL.c3
    have x1 := blk_cell y1 0
    have x2 := blk_cell y2 0
    have x3 := blk_cell y3 0
    have g1 := blk_free y1 0
    have g2 := blk_free y2 0
    have g3 := blk_free y3 0
    simp only [List.getElem?_toArray, List.getElem?_cons_zero] at x1 x2 x3
    have hn12 : w.heap.size + 1 ≠ w.heap.size + 1 + 1 := by omega
    have hn13 : w.heap.size + 1 ≠ w.heap.size + 1 + 1 + 1 := by omega
    have hn23 : w.heap.size + 1 + 1 ≠ w.heap.size + 1 + 1 + 1 := by omega
    clear hL y1 y2 y3 hAr
    go_wp2_with fail
    obtain ⟨V0, hV0⟩ : ∃ V, ((wr.setCell ⟨w.heap.size + 1, 0, none⟩ (.int .i64 0)).setCell ⟨w.heap.size + 1 + 1, 0, none⟩ (.slice none 0 0)).setCell ⟨w.heap.size + 1 + 1 + 1, 0, none⟩ (.int .i64 4) = V := ⟨_, rfl⟩
    have far0 : ∀ q, q ≠ w.heap.size + 1 → q ≠ w.heap.size + 1 + 1 → q ≠ w.heap.size + 1 + 1 + 1 → V0.heap[q]? = wr.heap[q]? := fun q h1 h2 h3 => by subst hV0; exact (blk_far _ h3).trans ((blk_far _ h2).trans (blk_far _ h1))
    have hV0s : V0.heap.size = wr.heap.size := by subst hV0; simp [World.setCell]
    have t1 : V0.heap[w.heap.size + 1]? = some (.cells #[.int .i64 0] 3 (0, 0)) := by subst hV0; exact (blk_far _ hn13).trans ((blk_far _ hn12).trans (blk_set HL.out.c1 0 _))
    have t2 : V0.heap[w.heap.size + 1 + 1]? = some (.cells #[.slice none 0 0] 23 (0, 0)) := by subst hV0; exact (blk_far _ hn23).trans (blk_set ((blk_far _ hn12.symm).trans HL.out.c2) 0 _)
    have t3 : V0.heap[w.heap.size + 1 + 1 + 1]? = some (.cells #[.int .i64 4] 24 (0, 0)) := by subst hV0; exact blk_set ((blk_far _ hn23.symm).trans ((blk_far _ hn13.symm).trans HL.out.c3)) 0 _
    have hVO : V0.os = wr.os ∧ V0.tape = wr.tape ∧ V0.output = wr.output := by subst hV0; exact ⟨rfl, rfl, rfl⟩
    rw [hV0]
    have hb9 := HL.out.bel
    refine leaves_marks Ds (w.heap.size + 4) V0 ⟨HL.out.ds.nd, fun E hE => ⟨(HL.out.ds.at_ E hE).1, (far0 E (by have := (HL.out.ds.at_ E hE).1; omega) (by have := (HL.out.ds.at_ E hE).1; omega) (by have := (HL.out.ds.at_ E hE).1; omega)).trans (HL.out.ds.at_ E hE).2⟩⟩ fun V hV hVs ho ht hout => ?_
    have hDn : ∀ q, q < w.heap.size + 4 → V.heap[q]? = V0.heap[q]? := fun q hq => hV q fun h => by have := (HL.out.ds.at_ q h).1; omega
    have x1 := blk_cell ((hDn _ (by omega)).trans t1) 0
    have x2 := blk_cell ((hDn _ (by omega)).trans t2) 0
    have x3 := blk_cell ((hDn _ (by omega)).trans t3) 0
    simp only [List.getElem?_toArray, List.getElem?_cons_zero] at x1 x2 x3
    refine ⟨.tuple #[.int .i64 0, .slice none 0 0, .int .i64 4], ?_, ⟨ho.trans (hVO.1.trans hb9.os), ht.trans (hVO.2.1.trans hb9.tape), hout.trans (hVO.2.2.trans hb9.output), by have := hb9.size; omega, fun q hq => (hDn q (by omega)).trans ((far0 q (by omega) (by omega) (by omega)).trans (hb9.block q hq))⟩, ?_⟩
    · rw [results_cells3 rfl]
      go_simp
    · rw [HLN.out]
end Go.Proofs.Ytejijddfepgnkaa
