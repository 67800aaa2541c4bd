/-
  append: one int behind a slice without room; rows behind rows. Over any program.
-/
import Derived.Test.YtilnbiaabhdfgaaRowVals
import Derived.Test.YtilnbiaabhdfgaaOpen
import Derived.ArgAppend
namespace Go.Proofs.Ytilnbiaabhdfgaa
open Go.RowKit
set_option linter.unusedVariables false
set_option linter.unusedSimpArgs false

section
variable {w w' w1 : World} {g : Option Nat} {vs us : List Value} {L L2 : List (List Int)}
theorem RowVals.also (h : RowVals w g vs L) (h2 : RowVals w g us L2) : RowVals w g (vs ++ us) (L ++ L2) := by
  refine ⟨by simp [h.1, h2.1], fun i hi => ?_⟩
  have hl := h.1
  by_cases hlt : i < L.length
  · obtain ⟨A', c', h3, h4⟩ := h.2 i hlt
    have e : (L ++ L2).getD i [] = L.getD i [] := by simp [List.getD_eq_getElem?_getD, List.getElem?_append_left hlt]
    rw [e]
    exact ⟨A', c', by rw [List.getElem?_append_left (by omega)]; exact h3, h4⟩
  · have hi2 : i - L.length < L2.length := by simp at hi; omega
    obtain ⟨A', c', h3, h4⟩ := h2.2 _ hi2
    have e : (L ++ L2).getD i [] = L2.getD (i - L.length) [] := by simp [List.getD_eq_getElem?_getD, List.getElem?_append_right (show L.length ≤ i by omega)]
    rw [e]
    exact ⟨A', c', by rw [List.getElem?_append_right (by omega), hl]; exact h3, h4⟩
theorem RowVals.grown (h : RowVals w g vs L) (hg : w.grownBy w1 g) {g' : Nat} (hg' : g = some g' ∨ w.heap.size ≤ g') : RowVals w1 (some g') vs L := by
  refine ⟨h.1, fun i hi => ?_⟩
  obtain ⟨A', c', h1, h2, h3, h4⟩ := h.2 i hi
  exact ⟨A', c', h1, h2, h3.grownOff hg h4, fun hp => h3.off_new hg' h4 hp⟩
/-- Off another block. -/
theorem RowVals.off (h : RowVals w g vs L) {g2 : Option Nat} (ho : ∀ A' n' c', Value.slice A' n' c' ∈ vs → ∀ q, (Value.slice A' n' c').ownBlock = some q → some q ≠ g2) : RowVals w g2 vs L := by
  refine ⟨h.1, fun i hi => ?_⟩
  obtain ⟨A', c', h1, h2, h3, h4⟩ := h.2 i hi
  exact ⟨A', c', h1, h2, h3, fun _ => off_own (n := (L.getD i []).length) (c := c') fun q hq => ho A' _ c' (List.mem_of_getElem? h1) q hq⟩
/-- Cells that hold such values read as the rows. -/
theorem rows_vals {X : Option Addr} (h : RowVals w g vs L) (hc : ∀ i u, vs[i]? = some u → ∃ b o, X = some ⟨b, o, none⟩ ∧ w.cell? ⟨b, o + i, none⟩ = some u) : RowsA w w.heap.size X L := by
  intro i hi
  obtain ⟨A', c', h1, h2, h3, _⟩ := h.2 i hi
  obtain ⟨b, o, e, hc'⟩ := hc i _ h1
  exact ⟨b, o, A', c', e, cell_lt hc', hc', h2, h3⟩
end

section
variable {P : Program} {ops : Array Oper} {rest : List Oper} {o : Oper} {a : Act} {Q : Exit → Act → World → Prop}
/-- 'append(v, x)' where v has no room: a new row. -/
theorem wpList_appFull1 {w0 : World} (s x : Operand) (t e : TypeId) (z : Value) (bytes : Nat) (ho : o.op = .call { callee := .builtin .append, args := #[s, x], argTypes := #[t, t] }) (hgd : o.guard = none)
    (ht : P.underlying t = some (.slice e)) (hinfo : (P.info? e).map (fun i => (i.zero, i.size, i.bytes)) = some (some z, 1, bytes)) (hz : z.cells.size = 1)
    (A : Option Addr) (n c B : Nat) (l : List Int) (u : Int) (e' : TypeId) (hs : a.eval s = .slice A n n) (hx : a.eval x = .slice (some ⟨w0.heap.size, 0, none⟩) 1 1) (hn : l.length = n) (hno : A = none → n = 0) (hI : IntsA w0 B A l)
    (hbytes : (n + 1) * bytes ≤ 140737488355328) (hn63 : n + 1 ≤ 9223372036854775807)
    (h : ∀ g c w', n + 1 ≤ c → IntsA w' w'.heap.size (some ⟨g, 0, none⟩) (l ++ [u]) → w0.heap.size ≤ g → g < w'.heap.size → Below w0.heap.size w0 w' →
      wpList P ops Q rest (a.put o.dst (.slice (some ⟨g, 0, none⟩) (n + 1) c)) w') : wpList P ops Q (o :: rest) a (w0.alloc (.cells #[.int .i64 u] e')) := by
  obtain ⟨i, hi, hz0, hz1, hz2⟩ := info_parts hinfo
  subst hn
  have hI1 : IntsA (w0.alloc (.cells #[.int .i64 u] e')) w0.heap.size A l := hI.top.keep fun p hp => World.cell?_alloc_lt _ _ _ hp
  refine wpList_append_grows (w0.alloc (.cells #[.int .i64 u] e')) hgd s x t ho e i z 1 bytes ht hi hz0 hz1 hz2 hz (by decide) A l.length l.length (l.map (Value.int .i64)) hs (fun hA => ⟨hno hA, hno hA⟩) (by simp)
    (fun b hb j v hj => ?_) ⟨w0.heap.size, 0, none⟩ 1 1 [.int .i64 u] hx rfl (fun j v hj => ?_) (by intro v hv; simp at hv; subst hv; rfl) (by omega) (by unfold maxLen; omega) hbytes ?_
  · have hjl : j < l.length := by
      rcases Nat.lt_or_ge j l.length with h1 | h1
      · exact h1
      · rw [List.getElem?_eq_none (by simpa using h1)] at hj; cases hj
    obtain ⟨b2, o2, e1, _, hc⟩ := hI1 j hjl
    rw [hb] at e1
    injection e1 with e1
    subst e1
    rw [add_plain, hc]
    rw [List.getElem?_map, List.getElem?_eq_getElem hjl] at hj
    rw [List.getD_eq_getElem?_getD, List.getElem?_eq_getElem hjl]
    exact hj
  · match j, hj with
    | 0, hj =>
      simp at hj; subst hj
      show (w0.alloc _).cell? ⟨w0.heap.size, 0, none⟩ = _
      rw [World.cell?_alloc_at _ _ _ _ rfl]; rfl
  · intro v' w' hown hg
    obtain ⟨gg, cc, rfl, hgb, hgc, hcm, hgl⟩ := own_form hown (by omega)
    have hsz : (w0.alloc (.cells #[.int .i64 u] e')).heap.size = w0.heap.size + 1 := by simp
    refine h gg cc w' hgc ?_ (by omega) hgl ?_
    · have : l.map (Value.int .i64) ++ [Value.int .i64 u] = (l ++ [u]).map (Value.int .i64) := by simp
      rw [this] at hown
      exact ints_of_own hown
    · exact ((Below.refl _ _).alloc (Nat.le_refl _) _).grown hg (by rw [hsz]; omega) (fun q hq => by cases hq)
/-- 'append(v, src...)': src holds the values us. -/
theorem wpList_appVals {w : World} (s x : Operand) (t e : TypeId) (z : Value) (bytes : Nat) (ho : o.op = .call { callee := .builtin .append, args := #[s, x], argTypes := #[t, t] }) (hgd : o.guard = none)
    (ht : P.underlying t = some (.slice e)) (hinfo : (P.info? e).map (fun i => (i.zero, i.size, i.bytes)) = some (some z, 1, bytes)) (hz : z.cells.size = 1)
    (base : Nat) (v : Value) (n : Nat) (xs : List Value) (hs : a.eval s = v) (X : Option Addr) (m c : Nat) (us : List Value) (hx : a.eval x = .slice X m c) (hm : us.length = m) (hm0 : 0 < m)
    (hc : ∀ i u, us[i]? = some u → ∃ b o, X = some ⟨b, o, none⟩ ∧ w.cell? ⟨b, o + i, none⟩ = some u) (h1 : ∀ u ∈ us, u.oneCell' = true)
    (hown : w.ownsRow base e 1 v n xs) (hbytes : (n + m) * bytes ≤ 140737488355328) (hn63 : n + m ≤ 9223372036854775807) (hbase : base ≤ w.heap.size)
    (h : ∀ g c' w', w'.ownsRow base e 1 (.slice (some ⟨g, 0, none⟩) (n + m) c') (n + m) (xs ++ us) → n + m ≤ c' → (v.ownBlock = some g ∨ w.heap.size ≤ g) → w.grownBy w' v.ownBlock →
      wpList P ops Q rest (a.put o.dst (.slice (some ⟨g, 0, none⟩) (n + m) c')) w') : wpList P ops Q (o :: rest) a w := by
  subst hm
  obtain ⟨i, hi, hz0, hz1, hz2⟩ := info_parts hinfo
  refine wpList_plain hgd fun K hK => ?_
  obtain ⟨b0, o0, hX, _⟩ := hc 0 us[0] (List.getElem?_eq_getElem hm0)
  subst hX
  obtain ⟨v', w', hr, h2, h3, h4, h5⟩ := run_append_own_at (P := P) w base t o.type e i z 1 bytes ht hi hz0 hz1 hz2 hz (by decide) v n xs hown ⟨b0, o0, none⟩ us.length c us (by simp)
    (fun j u hj => by
      obtain ⟨b, o, e1, hc'⟩ := hc j u hj
      injection e1 with e1
      injection e1 with e2 e3 _
      subst e2; subst e3
      rw [add_plain]; exact hc') h1 (by unfold maxLen; omega) hbytes hbase
  unfold Oper.wp execOp
  simp only [ho, resolve, invoke, builtin, Sem.run_bind, Sem.run_pure, Result.andThen_ok, List.map_toArray, List.map_cons, List.map_nil, hs, hx, hr]
  refine hK _ _ ?_
  obtain ⟨g, c', rfl, hgb, hgc, hcm, hgl⟩ := own_form h2 (by omega)
  refine h g c' w' h2 hgc ?_ h3
  rcases h5 with h5 | h5
  · exact .inl (by rw [← h5]; rfl)
  · have : g = w.heap.size := by simpa [Value.ownBlock] using h5
    exact .inr (by omega)
end
end Go.Proofs.Ytilnbiaabhdfgaa
