/-
  vote: ballots.kemeny: the first order with the least disagreement.
-/
import Derived.Test.YtejijddfepgnkaaOrdersV
import Derived.Test.YtejijddfepgnkaaDisagree
import Derived.Test.YtejijddfepgnkaaUpTo
namespace Go.Proofs.Ytejijddfepgnkaa
open Go.RowKit
set_option linter.unusedVariables false
set_option linter.unusedSimpArgs false
attribute [local go_sem] Oper.semAt_some

def kemSt (W : List (List Nat)) (s : Option (List Nat) × Nat) (x : List Nat) : (Option (List Nat) × Nat) × Option Code :=
  (if s.1 = none ∨ disN W x < s.2 then (some x, disN W x) else s, none)

/-- What holds between two rounds; b: the function's first own block. -/
structure KemI (w : World) (A : Option Addr) (v n c : Nat) (F : Nat → Prop) (s : Option (List Nat) × Nat) (W' : World) : Prop where
  lb : W'.heap[w.heap.size]? = some (.cells #[.slice A v c] 67 (0, 0))
  bb : ∃ X m cx, W'.heap[w.heap.size + 1]? = some (.cells #[.slice X m cx] 23 (0, 0)) ∧ (match s.1 with
    | none => X = none ∧ m = 0 ∧ cx = 0
    | some o => m = n ∧ n ≤ cx ∧ Ord o n ∧ IntsA W' W'.heap.size X (up o) ∧ ∀ k, (Value.slice X m cx).ownBlock = some k → F k ∧ w.heap.size + 3 ≤ k)
  nb : W'.heap[w.heap.size + 2]? = some (.cells #[.int .i64 (s.2 : Nat)] 3 (0, 0))
  old : ∀ k, k < w.heap.size → W'.heap[k]? = w.heap[k]?
  f1 : F (w.heap.size + 1)
  f2 : F (w.heap.size + 2)
  fo : ∀ k, F k → k = w.heap.size + 1 ∨ k = w.heap.size + 2 ∨ w.heap.size + 3 ≤ k

theorem KemI.stab {w : World} {A : Option Addr} {v n c B0 : Nat} (hB : w.heap.size + 3 ≤ B0) (F : Nat → Prop) (s : Option (List Nat) × Nat) (X Y : World) (h : KemI w A v n c F s X) (hk : ∀ k, F k ∨ k < B0 → Y.heap[k]? = X.heap[k]?) (hs : X.heap.size ≤ Y.heap.size) (_ : Y.tape = X.tape) : KemI w A v n c F s Y := by
  refine ⟨(hk _ (.inr (by omega))).trans h.lb, ?_, (hk _ (.inr (by omega))).trans h.nb, fun k h1 => (hk _ (.inr (by omega))).trans (h.old k h1), h.f1, h.f2, h.fo⟩
  obtain ⟨Z, m, cx, h1, h2⟩ := h.bb
  refine ⟨Z, m, cx, (hk _ (.inr (by omega))).trans h1, ?_⟩
  cases hs1 : s.1 with
  | none => rw [hs1] at h2; exact h2
  | some o =>
    rw [hs1] at h2
    obtain ⟨g1, g2, g3, g4, g5⟩ := h2
    exact ⟨g1, g2, g3, g4.keepR hs fun b o e hb => hk b (.inl (g5 b (by subst e; rfl)).1), g5⟩

theorem mem_ordsG {names : List Nat} : ∀ (d : Nat) (l : List Nat), ordsG names d l = ordsG names d l := fun _ _ => rfl
theorem ordsG_range (n : Nat) : ∀ (d : Nat) (l : List Nat), ordsG (List.range n) d l = ordsF n d l
  | 0, l => rfl
  | d + 1, l => by
    simp only [ordsG, ordsF]
    congr 1
    funext x
    rw [ordsG_range n d]

theorem results_cells2 {P : Program} {fn : Func} {p u : Tmp} {ty tu : TypeId} (h : fn.results = #[.cell p ty, .cell u tu]) (tmps : Array Value) (w : World) :
    (results fn tmps).run P w =
      ((asAddr (tmps.getD p undef)).run P w).andThen fun a w₁ => ((loadVar ty a).run P w₁).andThen fun v w₂ => ((asAddr (tmps.getD u undef)).run P w₂).andThen fun b w₃ => ((loadVar tu b).run P w₃).andThen fun x w₄ => .ok (.tuple #[v, x]) w₄ := by
  simp only [results, h]
  simp [Sem.run_bind, Result.andThen]

theorem kem_nojump (W : List (List Nat)) : ∀ (xs : List (List Nat)) (s : Option (List Nat) × Nat), (runJ (kemSt W) xs s).2 = none
  | [], s => rfl
  | x :: xs, s => by
    have e : runJ (kemSt W) (x :: xs) s = runJ (kemSt W) xs (kemSt W s x).1 := rfl
    rw [e]; exact kem_nojump W xs _
theorem kem_some (W : List (List Nat)) (n : Nat) : ∀ (xs : List (List Nat)) (s : Option (List Nat) × Nat), (∀ x ∈ xs, Ord x n) → (∃ o, s = (some o, disN W o) ∧ Ord o n) → ∃ o, (runJ (kemSt W) xs s).1 = (some o, disN W o) ∧ Ord o n
  | [], s, _, h => h
  | x :: xs, s, hx, h => by
    have e : runJ (kemSt W) (x :: xs) s = runJ (kemSt W) xs (kemSt W s x).1 := rfl
    rw [e]
    refine kem_some W n xs _ (fun y hy => hx y (List.mem_cons_of_mem _ hy)) ?_
    obtain ⟨o, rfl, ho⟩ := h
    unfold kemSt
    split
    · exact ⟨x, rfl, hx x (List.mem_cons_self ..)⟩
    · exact ⟨o, rfl, ho⟩
theorem kem_best (W : List (List Nat)) (n : Nat) : ∃ o, (runJ (kemSt W) (ordsN n) (none, 0)).1 = (some o, disN W o) ∧ Ord o n := by
  have hne : ordsN n ≠ [] := fun h => by
    have := mem_ordsN.2 (ord_range n)
    rw [h] at this; cases this
  have hall : ∀ x ∈ ordsN n, Ord x n := fun x hx => mem_ordsN.1 hx
  cases hxs : ordsN n with
  | nil => exact absurd hxs hne
  | cons x xs =>
    rw [hxs] at hall
    have e : runJ (kemSt W) (x :: xs) (none, 0) = runJ (kemSt W) xs (kemSt W (none, 0) x).1 := rfl
    rw [e]
    exact kem_some W n xs _ (fun y hy => hall y (List.mem_cons_of_mem _ hy)) ⟨x, by simp [kemSt], hall x (List.mem_cons_self ..)⟩

set_option maxRecDepth 100000 in
set_option maxHeartbeats 3200000 in
theorem kemeny_any (A : Option Addr) (v n c : Nat) (W : List (List Nat)) (w : World) (hW : BOk W v n) (hA : RowsA w w.heap.size A (upp W)) :
    Calls Try.prog 66 #[.slice A v c] w fun e w' => ∃ o X cx, (runJ (kemSt W) (ordsN n) (none, 0)).1 = (some o, disN W o) ∧ Ord o n ∧ e = .returned (.tuple #[.slice X n cx, .int .i64 (disN W o : Nat)]) ∧ n ≤ cx ∧ IntsA w' w'.heap.size X (up o) ∧ Below w.heap.size w w' ∧
      (∀ k, (Value.slice X n cx).ownBlock = some k → w.heap.size ≤ k) := by
  have HN := hide (fun (w' : World) (h : Below w.heap.size w w') => names_any A v n c w.heap.size W w' hW (hA.below h))
  have hn5 := hW.nle
  have HU := hide (fun (w' : World) => upTo_any n w' (by omega))
  refine calls_of_marks Try.func66 rfl ?_
  simp only [Try.ntmps66, List.size_toArray, List.length_cons, List.length_nil, Nat.reduceAdd, Nat.reduceSub, Array.replicate_succ, Array.replicate_zero, List.push_toArray, List.append_toArray, List.nil_append, List.cons_append]
  go_wp2_with fail
  obtain ⟨W1, hW1⟩ : ∃ W1, ((w.alloc (.cells #[.slice A v c] 67)).alloc (.cells #[.slice none 0 0] 23)).alloc (.cells #[.int .i64 0] 3) = W1 := ⟨_, rfl⟩
  have hb1 : Below w.heap.size w W1 := by subst hW1; exact (((Below.refl _ _).alloc (Nat.le_refl _) _).alloc (by simp) _).alloc (by simp <;> omega) _
  have hs1 : W1.heap.size = w.heap.size + 3 := by subst hW1; simp
  have p0 : W1.heap[w.heap.size]? = some (.cells #[.slice A v c] 67 (0, 0)) := by subst hW1; exact alloc_old _ _ _ (by simp <;> omega) (alloc_old _ _ _ (by simp) (alloc_new _ _ _ rfl))
  have p1 : W1.heap[w.heap.size + 1]? = some (.cells #[.slice none 0 0] 23 (0, 0)) := by subst hW1; exact alloc_old _ _ _ (by simp) (alloc_new _ _ _ (by simp))
  have p2 : W1.heap[w.heap.size + 2]? = some (.cells #[.int .i64 0] 3 (0, 0)) := by subst hW1; exact alloc_new _ _ _ (by simp)
  rw [hW1]
  have HB1 := hide hb1
  have HS1 := hide hs1
  have P0 := hide p0
  have P1 := hide p1
  have P2 := hide p2
  have HA := hide hA
  have HW := hide hW
  clear hW1 hb1 hs1 p0 p1 p2 hA hW
  have hn1 := HW.out.npos
  go_wp2_with (first
    | (go_at_call 60; refine (HN.out _ HB1.out).mono ?_; rintro e w' ⟨rfl, rfl⟩)
    | (go_at_call 59; refine (HU.out _).mono ?_; rintro e w2 ⟨H, c2, rfl, hc2, hown, hb2⟩; have HOW := hide hown; have HB2 := hide hb2; clear hown hb2)
    | (go_at_call 58; refine (orders_any w2 H n c2 (List.range n) (by omega) (by omega) (by simp) (ints_of_own HOW.out)).mono ?_; rintro e w3 ⟨rfl, rfl, hit⟩; have HIT := hide hit; clear hit))
  have hs2 := HB2.out.size
  have hs1 := HS1.out
  have hb2 := HB2.out
  have hw3 : Below w2.heap.size w2 (w2.alloc (.cells #[.slice H n c2] 23)) := (Below.refl _ _).alloc (Nat.le_refl _) _
  have hsz3 : (w2.alloc (.cells #[.slice H n c2] 23)).heap.size = w2.heap.size + 1 := by simp
  have hb3 : Below W1.heap.size W1 (w2.alloc (.cells #[.slice H n c2] 23)) := hb2.trans (hw3.mono hs2)
  obtain ⟨w3, hw3e⟩ : ∃ w3, w3 = w2.alloc (.cells #[.slice H n c2] 23) := ⟨_, rfl⟩
  rw [← hw3e] at hb3 hsz3 HIT ⊢
  have hold : ∀ k, k < w.heap.size → w3.heap[k]? = w.heap[k]? := fun k hk => (hb3.block k (by omega)).trans (HB1.out.block k hk)
  have h0 : KemI w A v n c (fun k => k = w.heap.size + 1 ∨ k = w.heap.size + 2) (none, 0) w3 :=
    ⟨(hb3.block _ (by omega)).trans P0.out, ⟨none, 0, 0, (hb3.block _ (by omega)).trans P1.out, rfl, rfl, rfl⟩, (hb3.block _ (by omega)).trans P2.out, hold, .inl rfl, .inr rfl, fun k hk => by rcases hk with h | h; exact .inl h; exact .inr (.inl h)⟩
  refine wp_loop_over (P := Try.prog) (m := 1) (w0 := w3) (xs := ordsG (List.range n) n []) (R := fun k => k < w2.heap.size + 1 ∧ NamesAt w2.heap.size H k) (kemSt W) (KemI w A v n c) (fun o => Ord o n) (fun k => k = w.heap.size + 1 ∨ k = w.heap.size + 2) (none, 0)
    rfl rfl (goes_of Try.func90 (by kernel_rfl) (by kernel_rfl)) HIT.out (fun o ho => by rw [ordsG_range] at ho; exact mem_ordsN.1 ho) (fun k h => by have := h.1; omega) (fun _ _ => rfl) (Nat.le_refl _)
    (fun F s X Y => KemI.stab (by omega) F s X Y) h0 (fun k hk => by rcases hk with h | h <;> omega) (fun k hk hR => ?_) ?_ ?_
  · rcases hR.2 with h | ⟨o, h⟩
    · rcases hk with h' | h' <;> omega
    · have := own_lt HOW.out k (by rw [h]; rfl)
      rcases hk with h' | h' <;> omega
  · intro l F s x X cx W9 K hR hK
    have hxl : x.length = n := hR.mem.len
    rw [hxl] at hK ⊢
    gi_wp2
    refine hK _ W9 (Only.refl _ _) ?_
    clear hK hR
    intro W2 hR hO hs
    have hi := hR.inv
    have hxo := hR.mem
    have hcap : n ≤ cx := by have := hR.cap; omega
    have hAW : RowsA W2 w.heap.size A (upp W) := HA.out.keep fun p hp => World.cell?_of_block (hi.old p.block hp)
    have HD := hide (disagreement_any A X v n c cx W2.heap.size W x W2 HW.out hxo hcap (hAW.more (by have := hR.base; omega)) hR.ints)
    obtain ⟨s1, s2⟩ := s
    obtain ⟨dn, hdn⟩ : ∃ dn, disN W x = dn := ⟨_, rfl⟩
    have q0 := blk_cell hi.lb 0
    have q2 := blk_cell hi.nb 0
    have f2 := blk_free hi.nb 0
    obtain ⟨X0, m0, cx0, hbb, hs1⟩ := hi.bb
    have q1 := blk_cell hbb 0
    have f1 := blk_free hbb 0
    simp only [List.getElem?_toArray, List.getElem?_cons_zero] at q0 q1 q2
    rw [show w.heap.size + 2 = w.heap.size + 1 + 1 from rfl] at q2 f2
    have hq := fun (w : World) (a : Option Addr) (n c n' c' : Nat) => Lib.run_eql_slice_nil (P := Try.prog) w 23 _ a n c n' c' Try.underlying23
    have hlts : w.heap.size + 3 ≤ W2.heap.size := by have := hR.base; omega
    rw [hdn] at HD
    have HI := hide hi
    have HR := hide hR
    have HX := hide hxo
    have HDN := hide hdn
    have HCAP := hide hcap
    have HBB := hide hbb
    have hfar : (⟨w.heap.size + 1, 0, none⟩ : Addr) ≠ ⟨w.heap.size + 1 + 1, 0, none⟩ := by simp
    -- behind the two stores
    have hput : (s1 = none ∨ dn < s2) → roundEnd (KemI w A v n c) F (Value.slice X n cx).ownBlock (kemSt W (s1, s2) x) W2 .normal { tmps := #[], defers := [] } ((W2.setCell ⟨w.heap.size + 1, 0, none⟩ (.slice X n cx)).setCell ⟨w.heap.size + 1 + 1, 0, none⟩ (.int .i64 dn)) := by
      intro hc
      have e : kemSt W (s1, s2) x = ((some x, dn), none) := by simp only [kemSt, HDN.out]; rw [if_pos hc]
      rw [e]
      have hi := HI.out
      have hR := HR.out
      have hsz : ((W2.setCell ⟨w.heap.size + 1, 0, none⟩ (.slice X n cx)).setCell ⟨w.heap.size + 1 + 1, 0, none⟩ (.int .i64 dn)).heap.size = W2.heap.size := by simp [World.setCell]
      have hO : Only F W2 ((W2.setCell ⟨w.heap.size + 1, 0, none⟩ (.slice X n cx)).setCell ⟨w.heap.size + 1 + 1, 0, none⟩ (.int .i64 dn)) := ((Only.refl _ _).setCell (.inl hi.f1) _).setCell (.inl hi.f2) _
      have far : ∀ k, k ≠ w.heap.size + 1 → k ≠ w.heap.size + 1 + 1 → ((W2.setCell ⟨w.heap.size + 1, 0, none⟩ (.slice X n cx)).setCell ⟨w.heap.size + 1 + 1, 0, none⟩ (.int .i64 dn)).heap[k]? = W2.heap[k]? := fun k h1 h2 => (blk_far _ h2).trans (blk_far _ h1)
      have hoff : ∀ k, (Value.slice X n cx).ownBlock = some k → w.heap.size + 3 ≤ k := fun k hk => by
        have := (hR.off k (by have := hxo.len; rw [this]; exact hk)).1
        omega
      refine ⟨rfl, fun k => F k ∨ (Value.slice X n cx).ownBlock = some k, ⟨(far _ (by omega) (by omega)).trans hi.lb, ⟨X, n, cx, ?_, rfl, HCAP.out, hxo, ?_, fun k hk => ⟨.inr hk, hoff k hk⟩⟩, ?_, fun k hk => (far k (by omega) (by omega)).trans (hi.old k hk), .inl hi.f1, .inl hi.f2, fun k hk => ?_⟩, fun k hk => ?_, fun k hk => ?_, hO⟩
      · exact (blk_far _ (by omega)).trans (blk_set HBB.out 0 _)
      · refine hR.ints.keepR (by omega) fun b o e hb => far b ?_ ?_
        · have := hoff b (by rw [e]; rfl); omega
        · have := hoff b (by rw [e]; rfl); omega
      · have h9 := hi.nb
        exact blk_set ((blk_far _ (by omega)).trans h9) 0 _
      · rcases hk with h | h
        · exact hi.fo k h
        · have := hoff k h; omega
      · rcases hk with h | h
        · exact .inl h
        · exact .inr (.inl h)
      · rw [hsz]
        rcases hk with h | h
        · exact hR.lt k h
        · by_cases hX : X = none
          · subst hX; simp [Value.ownBlock] at h
          · obtain ⟨b', o', x', e1, h2, _⟩ := hR.ints.at_ (k := 0) (by rw [up_length, hxo.len]; omega)
            subst e1
            have : b' = k := by simpa [Value.ownBlock] using h
            omega
    have HP := hide hput
    clear hput hi hR hxo hdn hcap hbb hO hs hAW
    cases s1 with
    | none =>
      obtain ⟨rfl, rfl, rfl⟩ := hs1
      gi_wp2_with (refine ⟨trivial, ?_⟩; gi_at_call 65; refine (CallsIn.inRound l (callsIn_wide.2 HD.out)).mono ?_; rintro e w' ⟨rfl, rfl⟩)
      exact HP.out (by simp)
    | some o =>
      obtain ⟨rfl, hc0, ho, hI0, hoff0⟩ := hs1
      have hX0 : ∃ b o, X0 = some ⟨b, o, none⟩ := by
        obtain ⟨b', o', x', e1, h2, _⟩ := hI0.at_ (k := 0) (by rw [up_length, ho.len]; omega)
        exact ⟨b', o', e1⟩
      obtain ⟨b0, o0, rfl⟩ := hX0
      clear ho hI0 hoff0
      by_cases hlt : dn < s2
      · gi_wp2_with (refine ⟨trivial, ?_⟩; gi_at_call 65; refine (CallsIn.inRound l (callsIn_wide.2 HD.out)).mono ?_; rintro e w' ⟨rfl, rfl⟩)
        exact HP.out (.inr hlt)
      · gi_wp2_with (refine ⟨trivial, ?_⟩; gi_at_call 65; refine (CallsIn.inRound l (callsIn_wide.2 HD.out)).mono ?_; rintro e w' ⟨rfl, rfl⟩)
        have e : kemSt W (some o, s2) x = ((some o, s2), none) := by simp only [kemSt, HDN.out]; rw [if_neg (by simp; omega)]
        rw [e]
        exact ⟨rfl, F, HI.out, fun k hk => .inl hk, HR.out.lt, Only.refl _ _⟩
  · intro D F' W' hI hsub hlt hO hD hnD hDd
    rw [kem_nojump]
    obtain ⟨o, he, ho⟩ := kem_best W n
    have he' : (runJ (kemSt W) (ordsG (List.range n) n []) (none, 0)).1 = (some o, disN W o) := by rw [ordsG_range]; exact he
    rw [he'] at hI
    obtain ⟨X, m, cx, hbb, rfl, hcx, _, hXI, hoff⟩ := hI.bb
    have hW'w : Below w.heap.size w W' := ⟨hO.os.trans (hb3.os.trans HB1.out.os), hO.tape.trans (hb3.tape.trans HB1.out.tape), hO.output.trans (hb3.output.trans HB1.out.output), by have := hO.size; omega, hI.old⟩
    have q0 := blk_cell hbb 0
    have f0 := blk_free hbb 0
    have q1 := blk_cell hI.nb 0
    have f1 := blk_free hI.nb 0
    simp only [List.getElem?_toArray, List.getElem?_cons_zero] at q0 q1
    simp only []
    have HI := hide hI
    have HO := hide hO
    have HXI := hide hXI
    have HOF := hide hoff
    have HWW := hide hW'w
    have HDD := hide hDd
    have HHO := hide ho
    have HEE := hide he
    have HSUB := hide hsub
    clear hI hO hXI hoff hW'w hDd ho he he' hsub hold h0 hb3 hw3 hb2 hlt
    rw [show w.heap.size + 2 = w.heap.size + 1 + 1 from rfl] at q1 f1
    go_wp2
    have hne2 : w.heap.size + 1 ≠ w.heap.size + 1 + 1 := by omega
    go_region
    go_wp2_with fail
    have hI := HI.out
    have hO := HO.out
    have hDge : W'.heap[D]? = some (.deferred (some [])) := HDD.out
    have hD1 : D ≠ w.heap.size + 1 := by omega
    have hD2 : D ≠ w.heap.size + 2 := by omega
    obtain ⟨V, hV⟩ : ∃ V, ((W'.setCell ⟨w.heap.size + 1, 0, none⟩ (.slice X m cx)).setCell ⟨w.heap.size + 1 + 1, 0, none⟩ (.int .i64 (disN W o : Nat))).drew = V := ⟨_, rfl⟩
    have far : ∀ k, k ≠ w.heap.size + 1 → k ≠ w.heap.size + 1 + 1 → V.heap[k]? = W'.heap[k]? := fun k h1 h2 => by subst hV; exact (blk_far _ h2).trans (blk_far _ h1)
    have hVs : V.heap.size = W'.heap.size := by subst hV; simp [World.setCell, World.drew]
    have hVD : V.heap[D]? = some (.deferred (some [])) := (far D hD1 hD2).trans hDge
    have v1 : V.heap[w.heap.size + 1]? = some (.cells #[.slice X m cx] 23 (0, 0)) := by subst hV; exact (blk_far _ hne2).trans (blk_set hbb 0 _)
    have v2 : V.heap[w.heap.size + 1 + 1]? = some (.cells #[.int .i64 (disN W o : Nat)] 3 (0, 0)) := by subst hV; exact blk_set ((blk_far _ hne2.symm).trans hI.nb) 0 _
    have hVO : V.os = W'.os ∧ V.tape = W'.tape ∧ V.output = W'.output := by subst hV; exact ⟨rfl, rfl, rfl⟩
    rw [hV]
    clear hV
    have hDlt : D < V.heap.size := (Array.getElem?_eq_some_iff.1 hVD).1
    refine leaves_mark hVD ?_
    have u1 := blk_cell ((World.putObj_heap_other (o := Obj.deferred none) hD1.symm).trans v1) 0
    have u2 := blk_cell ((World.putObj_heap_other (o := Obj.deferred none) hD2.symm).trans v2) 0
    simp only [List.getElem?_toArray, List.getElem?_cons_zero] at u1 u2
    refine ⟨.tuple #[.slice X m cx, .int .i64 (disN W o : Nat)], ?_, o, X, cx, HEE.out, HHO.out, rfl, hcx, ?_, ?_, ?_⟩
    · rw [results_cells2 rfl]
      go_simp
    · refine HXI.out.keepR (by simp [World.putObj]; omega) fun b o' e hb => ?_
      have := (HOF.out b (by rw [e]; rfl))
      refine (World.putObj_heap_other ?_).trans (far b (by omega) (by omega))
      intro e9; subst e9; exact hnD this.1
    · have h9 := HWW.out
      refine ⟨hVO.1.trans h9.os, hVO.2.1.trans h9.tape, hVO.2.2.trans h9.output, by simp [World.putObj]; have := h9.size; omega, fun k hk => ?_⟩
      exact (World.putObj_heap_other (by omega)).trans ((far k (by omega) (by omega)).trans (h9.block k hk))
    · intro k hk
      have := (HOF.out k hk).2
      omega
end Go.Proofs.Ytejijddfepgnkaa
