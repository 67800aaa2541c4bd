/-
  vote: ballots.axis: the first order that is an axis.
-/
import Derived.Test.YtejijddfepgnkaaBends
import Derived.Test.YtejijddfepgnkaaOrdersV
namespace Go.Proofs.Ytejijddfepgnkaa
open Go.RowKit
set_option linter.unusedVariables false
set_option linter.unusedSimpArgs false
attribute [local go_sem] Oper.semAt_some

theorem goes_axis1 : Goes Try.prog 99 := goes_of Try.func99 (by kernel_rfl) (by kernel_rfl)

set_option maxRecDepth 100000 in
set_option maxHeartbeats 800000 in
theorem axis1_any (X : Option Addr) (n cx : Nat) (x : List Nat) (A : Option Addr) (v k0 c : Nat) (W : List (List Nat)) (ob lb i : Nat) (w : World) (hW : BOk W v k0) (hi : i < v) (hn : x.length = n) (hn9 : n ≤ 60) (hnc : n ≤ cx) (hX : IntsA w w.heap.size X (up x)) (hA : RowsA w w.heap.size A (upp W))
    (hob : w.cell? ⟨ob, 0, none⟩ = some (.slice X n cx)) (hlb : w.cell? ⟨lb, 0, none⟩ = some (.slice A v c)) :
    Calls Try.prog 99 (#[.int .i64 (i : Nat)] ++ #[.pointer (some ⟨ob, 0, none⟩), .pointer (some ⟨lb, 0, none⟩)]) w fun e w' => e = .returned (.bool (bendB (up x) (up (W.getD i [])))) ∧ Below w.heap.size w w' := by
  have hk5 := hW.nle
  obtain ⟨b0, o0, Ai, ki, ci, rfl, hb0, hrow, hxx, hle, hI⟩ := hA.at_ (k := i) (by rw [upp_length, hW.len]; exact hi)
  rw [upp_getD] at hxx hI
  have hki : ki ≤ 60 := by rw [← hxx.out, up_length, (hW.rows i hi).len]; omega
  have HBN := hide (fun w' (h : Below w.heap.size w w') => bends_any X n cx (up x) Ai ki ci (up (W.getD i [])) w' (by rw [up_length, hn]) hn9 hnc (hX.next h) hxx.out hki (hI.next h))
  have l1 : ob < w.heap.size := cell_lt hob
  have l2 : lb < w.heap.size := cell_lt hlb
  have l3 : b0 < w.heap.size := hb0
  have hiv : (i : Int) < (v : Int) := by omega
  generalize bendB (up x) (up (W.getD i [])) = r at *
  clear hX hA hW hI hxx hn
  go_enter Try.func99, Try.ntmps99
  go_upto_region 1 with (fail)
  refine wp_region_below (by kernel_rfl) (by kernel_rfl) ?_
  refine wpQuiet_val' (.slice X n cx) (by rfl) (fun w' hw' => by have e0 := (hw'.cell (p := ⟨ob, 0, none⟩) l1).trans hob; go_simp) ?_
  simp only [put_lit, List.set_cons_succ, List.set_cons_zero]
  refine wpQuiet_val' (.slice (some ⟨b0, o0, none⟩) v c) (by rfl) (fun w' hw' => by have e0 := (hw'.cell (p := ⟨lb, 0, none⟩) l2).trans hlb; go_simp) ?_
  simp only [put_lit, List.set_cons_succ, List.set_cons_zero]
  refine wpQuiet_val' (.int .i64 (i : Nat)) (by rfl) (fun w' hw' => by go_simp) ?_
  simp only [put_lit, List.set_cons_succ, List.set_cons_zero]
  refine wpQuiet_val' (.pointer (some ⟨b0, o0 + i, none⟩)) (by rfl) (fun w' hw' => by go_simp) ?_
  simp only [put_lit, List.set_cons_succ, List.set_cons_zero]
  refine wpQuiet_val' (.slice Ai ki ci) (by rfl) (fun w' hw' => by have e0 := (hw'.cell (p := ⟨b0, o0 + i, none⟩) l3).trans hrow; go_simp) ?_
  simp only [put_lit, List.set_cons_succ, List.set_cons_zero]
  refine wpQuiet_call' 100 #[.slice X n cx, .slice Ai ki ci] (.bool r) (by rfl) (fun w' hw' => by go_simp) (fun w' hw' => (HBN.out w' hw').mono fun e w9 h9 => ⟨h9.1, hw'.trans (h9.2.mono hw'.size)⟩) ?_
  simp only [put_lit, List.set_cons_succ, List.set_cons_zero]
  refine wpQuiet_val' (.bool r) (by rfl) (fun w' hw' => by go_simp) ?_
  simp only [put_lit, List.set_cons_succ, List.set_cons_zero]
  refine wpQuiet_nil ?_
  intro w9 hb9
  go_wp2
  go_ret
  exact ⟨rfl, hb9⟩

/-- An order is an axis for some of the ballots. -/
def axP (W : List (List Nat)) (vs x : List Nat) : Bool := !decide (0 ≤ fidx vs.length fun i => bendB (up x) (up (W.getD (vs.getD i 0) [])))
def axSt (p : List Nat → Bool) (s : Option (List Nat)) (x : List Nat) : Option (List Nat) × Option Code := if p x then (some x, some .ret) else (s, none)
theorem ax_run (p : List Nat → Bool) : ∀ xs : List (List Nat), runJ (axSt p) xs none = match xs.find? p with | some x => (some x, some .ret) | none => (none, none)
  | [] => rfl
  | x :: xs => by
    have ih := ax_run p xs
    rw [List.find?_cons]
    cases h : p x with
    | true => simp [runJ, axSt, h]
    | false => simp only [runJ, axSt, h, Bool.false_eq_true, if_false, Option.isNone_none, if_true]; exact ih
theorem ordsG_len (names : List Nat) : ∀ (d : Nat) (l x : List Nat), x ∈ ordsG names d l → x.length = l.length + d
  | 0, l, x, h => by simp only [ordsG, List.mem_singleton] at h; subst h; rfl
  | d + 1, l, x, h => by
    simp only [ordsG, List.mem_flatMap] at h
    obtain ⟨y, _, h⟩ := h
    split at h
    · cases h
    · have := ordsG_len names d _ x h
      rw [List.length_append] at this
      simp only [List.length_cons, List.length_nil] at this
      omega
/-- What axis finds. -/
def axF (W : List (List Nat)) (names vs : List Nat) : Option (List Nat) := (ordsG names names.length []).find? (axP W vs)

/-- What axis returns. -/
def AxPost (r : Option (List Nat)) (n : Nat) (w : World) (e : Ending) (w' : World) : Prop :=
  ∃ X m cx, e = .returned (.slice X m cx) ∧ (match r with | none => X = none ∧ m = 0 ∧ cx = 0 | some o => m = n ∧ n ≤ cx ∧ o.length = n ∧ IntsA w' w'.heap.size X (up o)) ∧ Below w.heap.size w w'
/-- What holds between two rounds; s: the order that is returned. -/
structure AxI (w : World) (A : Option Addr) (v c : Nat) (Av : Option Addr) (vn cv n : Nat) (F : Nat → Prop) (s : Option (List Nat)) (W' : World) : Prop where
  lb : W'.heap[w.heap.size]? = some (.cells #[.slice A v c] 67 (0, 0))
  vb : W'.heap[w.heap.size + 1]? = some (.cells #[.slice Av vn cv] 23 (0, 0))
  rb : ∃ X m cx, W'.heap[w.heap.size + 2]? = some (.cells #[.slice X m cx] 23 (0, 0)) ∧ (match s with
    | none => X = none ∧ m = 0 ∧ cx = 0
    | some o => m = n ∧ n ≤ cx ∧ o.length = n ∧ IntsA W' W'.heap.size X (up o) ∧ ∀ k, (Value.slice X m cx).ownBlock = some k → F k ∧ w.heap.size + 3 ≤ k)
  old : ∀ k, k < w.heap.size → W'.heap[k]? = w.heap[k]?
  f2 : F (w.heap.size + 2)
  fo : ∀ k, F k → k = w.heap.size + 2 ∨ w.heap.size + 3 ≤ k
theorem AxI.stab {w : World} {A : Option Addr} {v c : Nat} {Av : Option Addr} {vn cv n B0 : Nat} (hB : w.heap.size + 3 ≤ B0) (F : Nat → Prop) (s : Option (List Nat)) (X Y : World) (h : AxI w A v c Av vn cv n F s X) (hk : ∀ k, F k ∨ k < B0 → Y.heap[k]? = X.heap[k]?) (hs : X.heap.size ≤ Y.heap.size) : AxI w A v c Av vn cv n F s Y := by
  refine ⟨(hk _ (.inr (by omega))).trans h.lb, (hk _ (.inr (by omega))).trans h.vb, ?_, fun k h1 => (hk _ (.inr (by omega))).trans (h.old k h1), h.f2, h.fo⟩
  obtain ⟨Z, m, cx, h1, h2⟩ := h.rb
  refine ⟨Z, m, cx, (hk _ (.inr (by omega))).trans h1, ?_⟩
  cases s with
  | none => exact h2
  | some o =>
    obtain ⟨g1, g2, g3, g4, g5⟩ := h2
    exact ⟨g1, g2, g3, g4.keepR hs fun b o e hb => hk b (.inl (g5 b (by subst e; rfl)).1), g5⟩
theorem results_cells1 {P : Program} {fn : Func} {p : Tmp} {ty : TypeId} (h : fn.results = #[.cell p ty]) (tmps : Array Value) (w : World) :
    (results fn tmps).run P w = ((asAddr (tmps.getD p undef)).run P w).andThen fun a w₁ => (loadVar ty a).run P w₁ := by
  simp only [results, h]
  simp [Sem.run_bind, Result.andThen]

set_option maxRecDepth 100000 in
set_option maxHeartbeats 3200000 in
theorem axis_any (A : Option Addr) (v k0 c : Nat) (An : Option Addr) (n cn : Nat) (Av : Option Addr) (vn cv : Nat) (W : List (List Nat)) (names vs : List Nat) (w : World) (hW : BOk W v k0) (hA : RowsA w w.heap.size A (upp W)) (hnl : names.length = n) (hn1 : 1 ≤ n) (hn9 : n ≤ 60) (hNA : IntsA w w.heap.size An (up names))
    (hvl : vs.length = vn) (hv9 : vn ≤ 60) (hvb : ∀ i, i < vn → vs.getD i 0 < v) (hVA : IntsA w w.heap.size Av (up vs)) :
    Calls Try.prog 72 #[.slice A v c, .slice An n cn, .slice Av vn cv] w (AxPost (axF W names vs) n w) := by
  have hmf : ∀ (fn : Fn) (first cap : Array Value) (w : World), (Instr.makeFunc fn first cap).run Try.prog w = .ok (.func fn first cap) w := fun _ _ _ _ => rfl
  refine calls_of_marks Try.func72 rfl ?_
  simp only [Try.ntmps72, List.size_toArray, List.length_cons, List.length_nil, Nat.reduceAdd, Nat.reduceSub, Array.replicate_succ, Array.replicate_zero, List.push_toArray, List.append_toArray, List.nil_append, List.cons_append]
  go_wp2_with fail
  obtain ⟨W1, hW1⟩ : ∃ W1, ((w.alloc (.cells #[.slice A v c] 67)).alloc (.cells #[.slice Av vn cv] 23)).alloc (.cells #[.slice none 0 0] 23) = W1 := ⟨_, rfl⟩
  have hb1 : Below w.heap.size w W1 := by subst hW1; exact (((Below.refl _ _).alloc (Nat.le_refl _) _).alloc (by simp) _).alloc (by simp <;> omega) _
  have hs1 : W1.heap.size = w.heap.size + 3 := by subst hW1; simp
  have p0 : W1.heap[w.heap.size]? = some (.cells #[.slice A v c] 67 (0, 0)) := by subst hW1; exact alloc_old _ _ _ (by simp <;> omega) (alloc_old _ _ _ (by simp) (alloc_new _ _ _ rfl))
  have p1 : W1.heap[w.heap.size + 1]? = some (.cells #[.slice Av vn cv] 23 (0, 0)) := by subst hW1; exact alloc_old _ _ _ (by simp) (alloc_new _ _ _ (by simp))
  have p2 : W1.heap[w.heap.size + 2]? = some (.cells #[.slice none 0 0] 23 (0, 0)) := by subst hW1; exact alloc_new _ _ _ (by simp)
  rw [hW1]
  have HB1 := hide hb1
  have HS1 := hide hs1
  have P0 := hide p0
  have P1 := hide p1
  have P2 := hide p2
  have HA := hide hA
  have HVA := hide hVA
  have HW := hide hW
  have HNA := hide hNA
  have HVB := hide hvb
  have HVL := hide hvl
  have HNL := hide hnl
  have HAF : Hid (axF W names vs = (ordsG names n []).find? (axP W vs)) := by show _ = _; rw [axF, hnl]
  clear hW1 hb1 hs1 p0 p1 p2 hA hW hNA hVA hvb hvl hnl
  go_wp2_with (go_at_call 58; refine (orders_any W1 An n cn names (by omega) hn1 HNL.out (HNA.out.next HB1.out)).mono ?_; rintro e w3 ⟨rfl, rfl, hit⟩; have HIT := hide hit; clear hit)
  have hs1 := HS1.out
  have hw3 : Below W1.heap.size W1 (W1.alloc (.cells #[.slice An n cn] 23)) := (Below.refl _ _).alloc (Nat.le_refl _) _
  have hsz3 : (W1.alloc (.cells #[.slice An n cn] 23)).heap.size = W1.heap.size + 1 := by simp
  obtain ⟨w3, hw3e⟩ : ∃ w3, w3 = W1.alloc (.cells #[.slice An n cn] 23) := ⟨_, rfl⟩
  rw [← hw3e] at hw3 hsz3 HIT ⊢
  have hold : ∀ k, k < w.heap.size → w3.heap[k]? = w.heap[k]? := fun k hk => (hw3.block k (by omega)).trans (HB1.out.block k hk)
  have h0 : AxI w A v c Av vn cv n (fun k => k = w.heap.size + 2) none w3 :=
    ⟨(hw3.block _ (by omega)).trans P0.out, (hw3.block _ (by omega)).trans P1.out, ⟨none, 0, 0, (hw3.block _ (by omega)).trans P2.out, rfl, rfl, rfl⟩, hold, rfl, fun k hk => .inl hk⟩
  refine wp_loop_over (P := Try.prog) (m := 1) (w0 := w3) (xs := ordsG names n []) (R := fun k => k < W1.heap.size + 1 ∧ NamesAt W1.heap.size An k) (axSt (axP W vs)) (AxI w A v c Av vn cv n) (fun o => o.length = n) (fun k => k = w.heap.size + 2) none
    rfl rfl (goes_of Try.func90 (by kernel_rfl) (by kernel_rfl)) HIT.out (fun o ho => by have := ordsG_len names n [] o ho; simpa using this) (fun k h => by have := h.1; omega) (fun _ _ => rfl) (Nat.le_refl _)
    (fun F s X Y h h1 h2 _ => AxI.stab (by omega) F s X Y h h1 h2) h0 (fun k hk => by omega) (fun k hk hR => ?_) ?_ ?_
  · rcases hR.2 with h | ⟨o, h⟩
    · omega
    · obtain ⟨b', o', x', e1, h2, _⟩ := HNA.out.at_ (k := 0) (by rw [up_length, HNL.out]; omega)
      rw [h] at e1
      injection e1 with e1; injection e1 with e1
      omega
  · intro l F s x X cx W9 K hR hK
    have hxl : x.length = n := hR.mem
    rw [hxl] at hK ⊢
    gi_wp2
    refine hK _ (W9.alloc (.cells #[.slice X n cx] 23)) (Only.of_below ((Below.refl _ _).alloc (Nat.le_refl _) _)) ?_
    have hl9 : l < W9.heap.size := by obtain ⟨r, hr⟩ := hR.rcd; exact (Array.getElem?_eq_some_iff.1 hr).1
    have hbase := hR.base
    clear hK hR
    intro W2 hR hO hs
    have hs2 : W2.heap.size = W9.heap.size + 1 := by rw [hs]; simp
    have hob : W2.heap[W9.heap.size]? = some (.cells #[.slice X n cx] 23 (0, 0)) := (hO.block _ (by simp) (by omega)).trans (alloc_new _ _ _ rfl)
    have hi := hR.inv
    have hcap : n ≤ cx := by have := hR.cap; omega
    have hAW : RowsA W2 W2.heap.size A (upp W) := ((HA.out.keep fun p hp => World.cell?_of_block (hi.old p.block hp)).more (by omega))
    have hVW : IntsA W2 W2.heap.size Av (up vs) := ((HVA.out.keep fun p hp => World.cell?_of_block (hi.old p.block hp)).more (by omega))
    have hXW := hR.ints
    have q0 : W2.cell? ⟨w.heap.size, 0, none⟩ = some (.slice A v c) := blk_cell hi.lb 0
    have q1 : W2.cell? ⟨w.heap.size + 1, 0, none⟩ = some (.slice Av vn cv) := blk_cell hi.vb 0
    have q7 : W2.cell? ⟨W9.heap.size, 0, none⟩ = some (.slice X n cx) := blk_cell hob 0
    have HCF := hide (containsFuncI_bel 99 #[.pointer (some ⟨W9.heap.size, 0, none⟩), .pointer (some ⟨w.heap.size, 0, none⟩)] Av vn cv (up vs) (fun i => bendB (up x) (up (W.getD (vs.getD i 0) []))) W2 goes_axis1 (by rw [up_length, HVL.out]) (by omega) hVW (fun i y w' hi2 hy hb' => by
      rw [up_getD] at hy
      subst hy
      exact axis1_any X n cx x A v k0 c W W9.heap.size w.heap.size (vs.getD i 0) w' HW.out (HVB.out i hi2) hxl hn9 hcap (hXW.next hb') (hAW.next hb') ((hb'.cell (p := ⟨W9.heap.size, 0, none⟩) (by show W9.heap.size < _; omega)).trans q7) ((hb'.cell (p := ⟨w.heap.size, 0, none⟩) (by show w.heap.size < _; omega)).trans q0)))
    have HP : Hid (axP W vs x = !decide (0 ≤ fidx vn fun i => bendB (up x) (up (W.getD (vs.getD i 0) [])))) := by show _ = _; rw [axP, HVL.out]
    obtain ⟨r, hr⟩ : ∃ r, decide (0 ≤ fidx vn fun i => bendB (up x) (up (W.getD (vs.getD i 0) []))) = r := ⟨_, rfl⟩
    rw [hr] at HCF HP
    have HI := hide hi
    have HR := hide hR
    have HXL := hide hxl
    have HCAP := hide hcap
    have hsz2 : w.heap.size + 3 ≤ W2.heap.size := by omega
    have HOB := hide hob
    have lq7 : W9.heap.size < W2.heap.size := by omega
    clear hi hR hxl hcap hAW hVW hXW hr hO hs hob
    cases r with
    | true =>
      gi_wp2_with (refine ⟨trivial, ?_⟩; gi_at_call 98; refine (CallsIn.inRound l (callsIn_wide.2 HCF.out)).mono ?_; rintro e w4 ⟨rfl, hb4⟩; have HB4 := hide hb4; clear hb4)
      have hst : axSt (axP W vs) s x = (s, none) := by rw [axSt, HP.out]; rfl
      rw [hst]
      have hb4 := HB4.out
      exact ⟨rfl, F, HI.out.stab hsz2 F s _ _ (fun k hk => hb4.block k (by rcases hk with h | h; exact HR.out.lt k h; exact h)) hb4.size, fun k hk => .inl hk, fun k hk => Nat.lt_of_lt_of_le (HR.out.lt k hk) hb4.size, Only.of_below hb4⟩
    | false =>
      obtain ⟨X0, m0, cx0, hrb, -⟩ := HI.out.rb
      have hrb' : W2.heap[w.heap.size + 1 + 1]? = some (.cells #[.slice X0 m0 cx0] 23 (0, 0)) := hrb
      clear hrb
      gi_wp2_with (refine ⟨trivial, ?_⟩; gi_at_call 98; refine (CallsIn.inRound l (callsIn_wide.2 HCF.out)).mono ?_; rintro e w4 ⟨rfl, hb4⟩; have HB4 := hide hb4; clear hb4; have q74 := (HB4.out.cell (p := ⟨W9.heap.size, 0, none⟩) lq7).trans q7; have HR4 := hide ((HB4.out.block (w.heap.size + 1 + 1) (by omega)).trans hrb'); have q64 := blk_cell HR4.out 0; have f64 := blk_free HR4.out 0; simp only [List.getElem?_toArray, List.getElem?_cons_zero] at q64)
      have hst : axSt (axP W vs) s x = (some x, some .ret) := by rw [axSt, HP.out]; rfl
      rw [hst]
      have hb4 := HB4.out
      have hi := HI.out
      have hR := HR.out
      have hxl := HXL.out
      have hs4 := hb4.size
      obtain ⟨V, hV⟩ : ∃ V, w4.setCell ⟨w.heap.size + 1 + 1, 0, none⟩ (.slice X n cx) = V := ⟨_, rfl⟩
      have far : ∀ q, q ≠ w.heap.size + 1 + 1 → V.heap[q]? = w4.heap[q]? := fun q h1 => by subst hV; exact blk_far _ h1
      have hVs : V.heap.size = w4.heap.size := by subst hV; simp [World.setCell]
      have t1 : V.heap[w.heap.size + 1 + 1]? = some (.cells #[.slice X n cx] 23 (0, 0)) := by subst hV; exact blk_set HR4.out 0 _
      have hVO : Only F W2 V := by subst hV; exact (Only.of_below hb4).setCell (.inl hi.f2) _
      rw [hV]
      have hoff : ∀ k, (Value.slice X n cx).ownBlock = some k → w3.heap.size ≤ k := fun k hk => (hR.off k (by rw [hxl]; exact hk)).1
      have hXlt : ∀ q, (Value.slice X n cx).ownBlock = some q → q < W2.heap.size := fun q hq => by
        by_cases hXn : X = none
        · subst hXn; simp [Value.ownBlock] at hq
        · obtain ⟨b', o', x', e1, h2, _⟩ := hR.ints.at_ (k := 0) (by rw [up_length, hxl]; omega)
          subst e1
          have : b' = q := by simpa [Value.ownBlock] using hq
          omega
      refine ⟨rfl, fun q => F q ∨ (Value.slice X n cx).ownBlock = some q, ⟨(far _ (by omega)).trans ((hb4.block _ (by omega)).trans hi.lb), (far _ (by omega)).trans ((hb4.block _ (by omega)).trans hi.vb), ⟨X, n, cx, t1, rfl, HCAP.out, hxl, ?_, fun k hk => ⟨.inr hk, by have := hoff k hk; omega⟩⟩, fun k hk => (far k (by omega)).trans ((hb4.block _ (by omega)).trans (hi.old k hk)), .inl hi.f2, fun k hk => ?_⟩, fun q hq => ?_, fun q hq => ?_, hVO⟩
      · refine (hR.ints.next hb4).keepR (by omega) fun b o e hb => far b ?_
        have := hoff b (by rw [e]; rfl)
        omega
      · rcases hk with h | h
        · exact hi.fo k h
        · have := hoff k h; exact .inr (by omega)
      · rcases hq with h | h
        · exact .inl h
        · exact .inr (.inl h)
      · rw [hVs]
        rcases hq with h | h
        · have := hR.lt q h; omega
        · have := hXlt q h; omega
  · intro D F' W' hI hsub hlt hO hD hnD hDd
    have hW'w : Below w.heap.size w W' := ⟨hO.os.trans (hw3.os.trans HB1.out.os), hO.tape.trans (hw3.tape.trans HB1.out.tape), hO.output.trans (hw3.output.trans HB1.out.output), by have := hO.size; omega, hI.old⟩
    have hs3 : w.heap.size + 3 ≤ D := by omega
    have hDlt := (Array.getElem?_eq_some_iff.1 hDd).1
    have HWW := hide hW'w
    have HDD := hide hDd
    rw [ax_run] at hI ⊢
    cases hfd : (ordsG names n []).find? (axP W vs) with
    | none =>
      rw [hfd] at hI
      obtain ⟨X, m, cx, hbb, rfl, rfl, rfl⟩ := hI.rb
      have hbb' : W'.heap[w.heap.size + 1 + 1]? = some (.cells #[.slice none 0 0] 23 (0, 0)) := hbb
      have HBB := hide hbb'
      have q0 := blk_cell hbb' 0
      have f0 := blk_free hbb' 0
      simp only [List.getElem?_toArray, List.getElem?_cons_zero] at q0
      have HFD : Hid (axF W names vs = none) := by show _ = _; rw [HAF.out, hfd]
      simp only []
      clear hI hO hW'w hDd hfd hsub hlt hold h0 hw3 hbb hbb'
      go_wp2_with fail
      obtain ⟨V, hV⟩ : ∃ V, W'.setCell ⟨w.heap.size + 1 + 1, 0, none⟩ (.slice none 0 0) = V := ⟨_, rfl⟩
      have far : ∀ k, k ≠ w.heap.size + 1 + 1 → V.heap[k]? = W'.heap[k]? := fun k h1 => by subst hV; exact blk_far _ h1
      have hVs : V.heap.size = W'.heap.size := by subst hV; simp [World.setCell]
      have hVD : V.heap[D]? = some (.deferred (some [])) := (far D (by omega)).trans HDD.out
      have v1 : V.heap[w.heap.size + 1 + 1]? = some (.cells #[.slice none 0 0] 23 (0, 0)) := by subst hV; exact blk_set HBB.out 0 _
      have hVO : V.os = W'.os ∧ V.tape = W'.tape ∧ V.output = W'.output := by subst hV; exact ⟨rfl, rfl, rfl⟩
      rw [hV]
      clear hV
      refine leaves_mark hVD ?_
      have u1 := blk_cell ((World.putObj_heap_other (o := Obj.deferred none) (show w.heap.size + 1 + 1 ≠ D by omega)).trans v1) 0
      simp only [List.getElem?_toArray, List.getElem?_cons_zero] at u1
      refine ⟨.slice none 0 0, ?_, ?_⟩
      · rw [results_cells1 rfl]
        go_simp
      · rw [HFD.out]
        refine ⟨none, 0, 0, rfl, ⟨rfl, rfl, rfl⟩, ?_⟩
        have h9 := HWW.out
        refine ⟨hVO.1.trans h9.os, hVO.2.1.trans h9.tape, hVO.2.2.trans h9.output, by simp [World.putObj]; have := h9.size; omega, fun k hk => ?_⟩
        exact (World.putObj_heap_other (by omega)).trans ((far k (by omega)).trans (h9.block k hk))
    | some o =>
      rw [hfd] at hI
      obtain ⟨X, m, cx, hbb, rfl, hcx, hol, hXI, hoff⟩ := hI.rb
      have hbb' : W'.heap[w.heap.size + 1 + 1]? = some (.cells #[.slice X m cx] 23 (0, 0)) := hbb
      have HFD : Hid (axF W names vs = some o) := by show _ = _; rw [HAF.out, hfd]
      simp only []
      have HBB := hide hbb'
      have HXI := hide hXI
      have HOF := hide hoff
      clear hI hO hW'w hDd hfd hsub hlt hold h0 hw3 hbb hbb' hXI hoff
      go_wp2_with fail
      refine leaves_mark HDD.out ?_
      have u1 := blk_cell ((World.putObj_heap_other (o := Obj.deferred none) (show w.heap.size + 1 + 1 ≠ D by omega)).trans HBB.out) 0
      simp only [List.getElem?_toArray, List.getElem?_cons_zero] at u1
      refine ⟨.slice X m cx, ?_, ?_⟩
      · rw [results_cells1 rfl]
        go_simp
      rw [HFD.out]
      refine ⟨X, m, cx, rfl, ⟨rfl, hcx, hol, ?_⟩, ?_⟩
      · refine HXI.out.keepR (by simp [World.putObj]) fun b o' e hb => ?_
        have := HOF.out b (by rw [e]; rfl)
        refine World.putObj_heap_other ?_
        intro e9; subst e9; exact hnD this.1
      · have h9 := HWW.out
        refine ⟨h9.os, h9.tape, h9.output, by simp [World.putObj]; have := h9.size; omega, fun k hk => ?_⟩
        exact (World.putObj_heap_other (by omega)).trans (h9.block k hk)
end Go.Proofs.Ytejijddfepgnkaa
