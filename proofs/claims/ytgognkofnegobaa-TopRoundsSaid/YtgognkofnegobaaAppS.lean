/-
  'append(v, u)' where an element has several cells (a struct, an array).
-/
import Derived.Test.YtgognkofnegobaaBase
namespace Go.Proofs.Ytgognkofnegobaa
open Go.RowKit Go.Deep
set_option linter.unusedVariables false
set_option linter.unusedSimpArgs false

theorem own_formS {w : World} {base n size : Nat} {e : TypeId} {v : Value} {xs : List Value} (h : w.ownsRow base e size v n xs) (hn : 0 < n) : ∃ g cap, v = .slice (some ⟨g, 0, none⟩) n cap ∧ base ≤ g ∧ n ≤ cap ∧ cap ≤ maxLen ∧ g < w.heap.size := by
  obtain ⟨hl, h2⟩ := h
  rcases h2 with ⟨hv, h0⟩ | ⟨g, cap, cur, hv, hg, hh, hc, hmx, hs, ht⟩
  · omega
  · exact ⟨g, cap, hv, hg, hc, hmx, lt_of_block hh⟩
section
variable {P : Program} {ops : Array Oper} {rest : List Oper} {o : Oper} {a : Act} {Q : Exit → Act → World → Prop}
/-- 'append(v, u)': the one element, of 'size' cells, lies in a new block. -/
theorem wp_appS {w w0 : World} {o' : Obj} {K : Act → World → Prop} (s x : Operand) (t e : TypeId) (z : Value) (size bytes : Nat) (ho : o.op = .call { callee := .builtin .append, args := #[s, x], argTypes := #[t, t] })
    (ht : P.underlying t = some (.slice e)) (hinfo : (P.info? e).map (fun i => (i.zero, i.size, i.bytes)) = some (some z, size, bytes)) (hz : z.cells.size = size) (hsz : 0 < size)
    (base : Nat) (v : Value) (n : Nat) (xs us : List Value) (hul : us.length = size) (hs : a.eval s = v) (hx : a.eval x = .slice (some ⟨w0.heap.size, 0, none⟩) 1 1) (hw : w = w0.alloc o') (ho' : ∃ e', o' = .cells us.toArray e' (0, 0))
    (hown : w0.ownsRow base e size v n xs) (hu : ∀ u ∈ us, u.oneCell' = true) (hbytes : (n + 1) * bytes ≤ 140737488355328) (hn63 : n + 1 ≤ 9223372036854775807) (hbase : base ≤ w0.heap.size)
    (h : ∀ g c w', w'.ownsRow base e size (.slice (some ⟨g, 0, none⟩) (n + 1) c) (n + 1) (xs ++ us) → n + 1 ≤ c → c ≤ maxLen → (v.ownBlock = some g ∨ w0.heap.size ≤ g) → g < w'.heap.size → w0.grownBy w' v.ownBlock →
      K (a.put o.dst (.slice (some ⟨g, 0, none⟩) (n + 1) c)) w') : o.wp P a w K Q := by
  subst hw
  obtain ⟨e', rfl⟩ := ho'
  obtain ⟨i, hi, hz0, hz1, hz2⟩ := info_parts hinfo
  obtain ⟨v', w', hr, h2, h3, h4, h5⟩ := run_append_own_at (P := P) (w0.alloc (.cells us.toArray e')) base t o.type e i z size bytes ht hi hz0 hz1 hz2 hz hsz v n xs (hown.alloc _) ⟨w0.heap.size, 0, none⟩ 1 1 us (by omega)
    (by
      intro j u' hj
      have e1 : ((⟨w0.heap.size, 0, none⟩ : Addr).add j) = ⟨w0.heap.size, 0 + j, none⟩ := by
        unfold Addr.add
        split
        · rename_i h0; subst h0; rfl
        · rfl
      rw [e1, Nat.zero_add]
      have := blk_cell (alloc_new w0 (.cells us.toArray e') _ rfl) j
      rw [this]
      simpa using hj)
    hu (by unfold maxLen; omega) hbytes (by simp; omega)
  unfold Oper.wp execOp
  simp only [ho, resolve, invoke, builtin, Sem.run_bind, Sem.run_pure, Result.andThen_ok, List.map_toArray, List.map_cons, List.map_nil, hs, hx, hr]
  have hg : w0.grownBy w' v.ownBlock := ⟨h3.os, h3.tape, h3.output, by have := h3.size; simp at this; omega, fun k hk hne => (h3.block k (by simp; omega) hne).trans (Below.heap_alloc w0 _ k hk)⟩
  obtain ⟨g, c, rfl, hgb, hgc, hcm, hgl⟩ := own_formS h2 (by omega)
  refine h g c w' h2 hgc hcm ?_ hgl hg
  rcases h5 with h5 | h5
  · exact .inl (by rw [← h5]; rfl)
  · have : g = w0.heap.size + 1 := by simpa [Value.ownBlock] using h5
    exact .inr (by omega)
theorem wpList_appS {w w0 : World} {o' : Obj} (s x : Operand) (t e : TypeId) (z : Value) (size bytes : Nat) (ho : o.op = .call { callee := .builtin .append, args := #[s, x], argTypes := #[t, t] }) (hgd : o.guard = none)
    (ht : P.underlying t = some (.slice e)) (hinfo : (P.info? e).map (fun i => (i.zero, i.size, i.bytes)) = some (some z, size, bytes)) (hz : z.cells.size = size) (hsz : 0 < size)
    (base : Nat) (v : Value) (n : Nat) (xs us : List Value) (hul : us.length = size) (hs : a.eval s = v) (hx : a.eval x = .slice (some ⟨w0.heap.size, 0, none⟩) 1 1) (hw : w = w0.alloc o') (ho' : ∃ e', o' = .cells us.toArray e' (0, 0))
    (hown : w0.ownsRow base e size v n xs) (hu : ∀ u ∈ us, u.oneCell' = true) (hbytes : (n + 1) * bytes ≤ 140737488355328) (hn63 : n + 1 ≤ 9223372036854775807) (hbase : base ≤ w0.heap.size)
    (h : ∀ g c w', w'.ownsRow base e size (.slice (some ⟨g, 0, none⟩) (n + 1) c) (n + 1) (xs ++ us) → n + 1 ≤ c → c ≤ maxLen → (v.ownBlock = some g ∨ w0.heap.size ≤ g) → g < w'.heap.size → w0.grownBy w' v.ownBlock →
      wpList P ops Q rest (a.put o.dst (.slice (some ⟨g, 0, none⟩) (n + 1) c)) w') : wpList P ops Q (o :: rest) a w :=
  wpList_plain hgd fun K hK => wp_appS s x t e z size bytes ho ht hinfo hz hsz base v n xs us hul hs hx hw ho' hown hu hbytes hn63 hbase fun g c w' h1 h2 h3 h4 h5 h6 => hK _ _ (h g c w' h1 h2 h3 h4 h5 h6)
end
theorem own_ltS {w : World} {base n size : Nat} {e : TypeId} {v : Value} {xs : List Value} (h : w.ownsRow base e size v n xs) : ∀ k, v.ownBlock = some k → base ≤ k ∧ k < w.heap.size := fun k hk => by
  obtain ⟨hl, h2⟩ := h
  rcases h2 with ⟨hv, h0⟩ | ⟨g, cap, cur, hv, hg, hh, hc, hmx, hs, ht⟩
  · subst hv; simp [Value.ownBlock] at hk
  · subst hv
    have : g = k := by simpa [Value.ownBlock] using hk
    subst this
    exact ⟨hg, lt_of_block hh⟩
theorem own_keepS {w w' : World} {base n size : Nat} {e : TypeId} {v : Value} {xs : List Value} (h : w.ownsRow base e size v n xs) (hk : ∀ g, v.ownBlock = some g → w'.heap[g]? = w.heap[g]?) : w'.ownsRow base e size v n xs := by
  refine ⟨h.1, ?_⟩
  rcases h.2 with h2 | ⟨g, cap, cur, hv, hg, hh, r⟩
  · exact .inl h2
  · exact .inr ⟨g, cap, cur, hv, hg, (hk g (by rw [hv]; rfl)).trans hh, r⟩
end Go.Proofs.Ytgognkofnegobaa
