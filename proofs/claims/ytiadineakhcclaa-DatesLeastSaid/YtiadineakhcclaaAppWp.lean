/-
  append and a call through a function value, as a region that draws its order meets them.
-/
import Derived.Test.YtiadineakhcclaaBase
namespace Go.Proofs.Ytiadineakhcclaa
open Go.RowKit
set_option linter.unusedVariables false
set_option linter.unusedSimpArgs false

section
variable {P : Program} {ops : Array Oper} {rest : List Oper} {o : Oper} {a : Act} {Q : Exit → Act → World → Prop} {w : World} {K : Act → World → Prop}
theorem wp_appInts (s x : Operand) (t e : TypeId) (z : Value) (bytes : Nat) (ho : o.op = .call { callee := .builtin .append, args := #[s, x], argTypes := #[t, t] })
    (ht : P.underlying t = some (.slice e)) (hinfo : (P.info? e).map (fun i => (i.zero, i.size, i.bytes)) = some (some z, 1, bytes)) (hz : z.cells.size = 1)
    (base : Nat) (v : Value) (n : Nat) (xs : List Value) (hs : a.eval s = v) (ad : Addr) (m c B : Nat) (l : List Int) (hx : a.eval x = .slice (some ad) m c) (hm : l.length = m) (hI : IntsA w B (some ad) l)
    (hown : w.ownsRow base e 1 v n xs) (hbytes : (n + m) * bytes ≤ 140737488355328) (hn63 : n + m ≤ 9223372036854775807) (hbase : base ≤ w.heap.size)
    (h : ∀ A' c' w', w'.ownsRow base e 1 (.slice A' (n + m) c') (n + m) (xs ++ l.map (Value.int .i64)) → n + m ≤ c' → c' ≤ maxLen → w.grownBy w' v.ownBlock →
      K (a.put o.dst (.slice A' (n + m) c')) w') : o.wp P a w K Q := by
  subst hm
  obtain ⟨i, hi, hz0, hz1, hz2⟩ := info_parts hinfo
  have hnews : ∀ (j : Nat) (u : Value), (l.map (Value.int .i64))[j]? = some u → w.cell? (ad.add j) = some u := by
    intro j u hj
    have hjl : j < l.length := by
      rcases Nat.lt_or_ge j l.length with h1 | h1
      · exact h1
      · rw [List.getElem?_eq_none (by simpa using h1)] at hj; cases hj
    obtain ⟨b, off, e1, _, hc⟩ := hI j hjl
    injection e1 with e1
    subst e1
    have e2 : ((⟨b, off, none⟩ : Addr).add j) = ⟨b, off + j, none⟩ := by
      unfold Addr.add
      split
      · rename_i h0; subst h0; rfl
      · rfl
    rw [e2, hc]
    rw [List.getElem?_map, List.getElem?_eq_getElem hjl] at hj
    rw [List.getD_eq_getElem?_getD, List.getElem?_eq_getElem hjl]
    exact hj
  obtain ⟨v', w', hr, h2, h3, h4, h5⟩ := run_append_own_at (P := P) w base t o.type e i z 1 bytes ht hi hz0 hz1 hz2 hz (by decide) v n xs hown ad l.length c (l.map (Value.int .i64)) (by simp) hnews (ints_oneCell _ _)
    (by unfold maxLen; omega) hbytes hbase
  unfold Oper.wp execOp
  simp only [ho, resolve, invoke, builtin, Sem.run_bind, Sem.run_pure, Result.andThen_ok, List.map_toArray, List.map_cons, List.map_nil, hs, hx, hr]
  obtain ⟨A', c', rfl, hc1, hc2⟩ := own_slice h2
  exact h A' c' w' h2 hc1 hc2 h3
theorem wp_callv2 (fid : FuncId) (cap : Array Value) (f x y : Operand) (v1 v2 : Value) (ts : Array TypeId) (ho : o.op = .call { callee := .value f, args := #[x, y], argTypes := ts })
    (hf : a.eval f = .func (.func fid) #[] cap) (hx : a.eval x = v1) (hy : a.eval y = v2) (hgo : Goes P fid)
    (h : Calls P fid (#[v1, v2] ++ cap) w fun e w'' => ∃ v, e = .returned v ∧ K (a.put o.dst v) w'') : o.wp P a w K Q := by
  have hg := hgo (#[v1, v2] ++ cap) w
  unfold Oper.wp execOp
  simp only [ho, resolve, Deferred.ofValue, invoke, hf, Sem.run_bind, Sem.run_pure, Result.andThen_ok, List.map_toArray, List.map_cons, List.map_nil, hx, hy, Array.empty_append, hg, Oper.upon]
  refine h.mono ?_
  rintro e w'' ⟨v, rfl, hw⟩
  exact hw
theorem wpList_callv2 (fid : FuncId) (cap : Array Value) (f x y : Operand) (v1 v2 : Value) (ts : Array TypeId) (ho : o.op = .call { callee := .value f, args := #[x, y], argTypes := ts }) (hgd : o.guard = none)
    (hf : a.eval f = .func (.func fid) #[] cap) (hx : a.eval x = v1) (hy : a.eval y = v2) (hgo : Goes P fid)
    (h : Calls P fid (#[v1, v2] ++ cap) w fun e w'' => ∃ v, e = .returned v ∧ wpList P ops Q rest (a.put o.dst v) w'') : wpList P ops Q (o :: rest) a w :=
  wpList_plain hgd fun K hK => wp_callv2 fid cap f x y v1 v2 ts ho hf hx hy hgo (h.mono fun e w'' ⟨v, h1, h2⟩ => ⟨v, h1, hK _ _ h2⟩)
end
end Go.Proofs.Ytiadineakhcclaa
