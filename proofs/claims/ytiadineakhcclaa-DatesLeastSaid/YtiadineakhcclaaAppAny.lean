/-
  'append(v, src...)', src any slice that reads as ints, an empty one too.
-/
import Derived.Test.YtiadineakhcclaaBase
import Derived.ArgAppend
namespace Go.Proofs.Ytiadineakhcclaa
open Go.RowKit
set_option linter.unusedVariables false
set_option linter.unusedSimpArgs false

theorem run_append_keep {P : Program} (w : World) (base : Nat) (t ty e : TypeId) (i : TypeInfo) (z : Value) (size bytes : Nat) (ht : P.underlying t = some (.slice e)) (hi : P.info? e = some i) (hz : i.zero = some z)
    (hsize : i.size = size) (hby : i.bytes = bytes) (hzs : z.cells.size = size) (hsz : 0 < size)
    (v : Value) (n : Nat) (xs : List Value) (hown : w.ownsRow base e size v n xs)
    (a : Addr) (m c : Nat) (news : List Value) (hl : news.length = m * size) (hnews : ∀ j u, news[j]? = some u → w.cell? (a.add j) = some u) (h1 : ∀ u ∈ news, u.oneCell' = true)
    (h63 : n + m ≤ maxLen) (hbytes : (n + m) * bytes ≤ 140737488355328) (hbase : base ≤ w.heap.size) :
    ∃ v' w', (Builtin.append_ #[t, t] ty #[v, .slice (some a) m c]).run P w = .ok v' w' ∧ w'.ownsRow base e size v' (n + m) (xs ++ news) ∧ w.grownBy w' v.ownBlock ∧
      (v'.ownBlock = v.ownBlock ∨ v'.ownBlock = some w.heap.size) ∧ (v'.ownBlock = v.ownBlock ∨ w.grownBy w' none) := by
  obtain ⟨v', w', hr, h2, h3, h4, h5⟩ := run_append_own_at (P := P) w base t ty e i z size bytes ht hi hz hsize hby hzs hsz v n xs hown a m c news hl hnews h1 h63 hbytes hbase
  refine ⟨v', w', hr, h2, h3, h5, ?_⟩
  rcases hown.2 with ⟨rfl, rfl⟩ | ⟨g, cap, cur, rfl, hbg, hg, hnc, hcm, hcs, htake⟩
  · exact .inr h3
  · by_cases hroom : n + m ≤ cap
    · left
      subst hsize
      have hfit : n * i.size + news.length ≤ cur.size := by rw [hl, hcs, ← Nat.add_mul]; exact Nat.mul_le_mul_right _ hroom
      have hr2 := run_append_room (P := P) w t ty e i ht hi g n cap cur hg a m c news hl hnews h1 hroom hfit
      rw [hr] at hr2
      injection hr2 with e1 e2
      rw [e1]; rfl
    · right
      have holds : ∀ j u, xs[j]? = some u → w.cell? ((⟨g, 0, none⟩ : Addr).add j) = some u := hown.cells (g := g) rfl
      obtain ⟨v2, w2, hr2, _, hg2⟩ := run_append_arg_grows (P := P) w t ty e i z size bytes ht hi hz hsize hby hzs hsz ⟨g, 0, none⟩ n cap xs hown.1 holds a m c news hl hnews (by omega) h63 hbytes
      rw [hr] at hr2
      injection hr2 with e1 e2
      rw [e2]; exact hg2
/-- What was there before reads as it did. -/
theorem ints_kept {w w' : World} {base n m c c' : Nat} {e : TypeId} {A A' : Option Addr} {l l2 : List Int} (hown : w.ownsRow base e 1 (.slice A n c) n (l.map (Value.int .i64))) (hown' : w'.ownsRow base e 1 (.slice A' (n + m) c') (n + m) (l.map (Value.int .i64) ++ l2.map (Value.int .i64)))
    (h : (Value.slice A' (n + m) c').ownBlock = (Value.slice A n c).ownBlock ∨ w.grownBy w' none) : IntsA w' w'.heap.size A l := by
  have hl : l.length = n := by have := hown.1; simpa using this
  rcases Nat.eq_zero_or_pos n with h0 | h0
  · intro i hi; omega
  · rcases h with h | h
    · obtain ⟨g, cc, hX, hg1, hg2, hg3, hg4⟩ := own_form hown h0
      obtain ⟨g', cc', hX', hg1', hg2', hg3', hg4'⟩ := own_form hown' (by omega)
      injection hX with e1 _ _
      injection hX' with e1' _ _
      subst e1; subst e1'
      have e3 : g' = g := by simpa [Value.ownBlock] using h
      subst e3
      rw [← List.map_append] at hown'
      have h5 := ints_of_own hown'
      intro i hi
      obtain ⟨b, o, k1, k2, k3⟩ := h5 i (by rw [List.length_append]; omega)
      refine ⟨b, o, k1, k2, ?_⟩
      rw [k3]
      congr 2
      rw [List.getD_eq_getElem?_getD, List.getD_eq_getElem?_getD, List.getElem?_append_left hi]
    · exact (ints_of_own hown).grownOff h (fun _ b o _ => by simp)
section
variable {P : Program} {ops : Array Oper} {rest : List Oper} {o : Oper} {a : Act} {Q : Exit → Act → World → Prop}
theorem wpList_appAny {w : World} (s x : Operand) (t e : TypeId) (z : Value) (bytes : Nat) (ho : o.op = .call { callee := .builtin .append, args := #[s, x], argTypes := #[t, t] }) (hgd : o.guard = none)
    (ht : P.underlying t = some (.slice e)) (hinfo : (P.info? e).map (fun i => (i.zero, i.size, i.bytes)) = some (some z, 1, bytes)) (hz : z.cells.size = 1)
    (base : Nat) (v : Value) (n : Nat) (xs : List Value) (hs : a.eval s = v) (A : Option Addr) (m c B : Nat) (l : List Int) (hx : a.eval x = .slice A m c) (hm : l.length = m) (hI : IntsA w B A l)
    (hown : w.ownsRow base e 1 v n xs) (hbytes : (n + m) * bytes ≤ 140737488355328) (hn63 : n + m ≤ 9223372036854775807) (hbase : base ≤ w.heap.size)
    (h : ∀ A' c' w', w'.ownsRow base e 1 (.slice A' (n + m) c') (n + m) (xs ++ l.map (Value.int .i64)) → n + m ≤ c' → c' ≤ maxLen → w.grownBy w' v.ownBlock →
      ((Value.slice A' (n + m) c').ownBlock = v.ownBlock ∨ (Value.slice A' (n + m) c').ownBlock = some w.heap.size) → ((Value.slice A' (n + m) c').ownBlock = v.ownBlock ∨ w.grownBy w' none) → wpList P ops Q rest (a.put o.dst (.slice A' (n + m) c')) w') : wpList P ops Q (o :: rest) a w := by
  cases A with
  | some ad =>
    subst hm
    obtain ⟨i, hi, hz0, hz1, hz2⟩ := info_parts hinfo
    refine wpList_plain hgd fun K hK => ?_
    have hnews : ∀ (j : Nat) (u : Value), (l.map (Value.int .i64))[j]? = some u → w.cell? (ad.add j) = some u := by
      intro j u hj
      have hjl : j < l.length := by
        rcases Nat.lt_or_ge j l.length with h1 | h1
        · exact h1
        · rw [List.getElem?_eq_none (by simpa using h1)] at hj; cases hj
      obtain ⟨b, off, e1, _, hc⟩ := hI j hjl
      injection e1 with e1
      subst e1
      have e2 : ((⟨b, off, none⟩ : Addr).add j) = ⟨b, off + j, none⟩ := by
        unfold Addr.add
        split
        · rename_i h0; subst h0; rfl
        · rfl
      rw [e2, hc]
      rw [List.getElem?_map, List.getElem?_eq_getElem hjl] at hj
      rw [List.getD_eq_getElem?_getD, List.getElem?_eq_getElem hjl]
      exact hj
    obtain ⟨v', w', hr, h2, h3, h5, h6⟩ := run_append_keep (P := P) w base t o.type e i z 1 bytes ht hi hz0 hz1 hz2 hz (by decide) v n xs hown ad l.length c (l.map (Value.int .i64)) (by simp) hnews (ints_oneCell _ _)
      (by unfold maxLen; omega) hbytes hbase
    unfold Oper.wp execOp
    simp only [ho, resolve, invoke, builtin, Sem.run_bind, Sem.run_pure, Result.andThen_ok, List.map_toArray, List.map_cons, List.map_nil, hs, hx, hr]
    refine hK _ _ ?_
    obtain ⟨A', c', rfl, hc1, hc2⟩ := own_slice h2
    exact h A' c' w' h2 hc1 hc2 h3 h5 h6
  | none =>
    have hm0 : m = 0 := by
      rcases Nat.eq_zero_or_pos m with h0 | h0
      · exact h0
      · obtain ⟨b, off, e1, _⟩ := hI 0 (by omega); cases e1
    subst hm0
    obtain rfl : l = [] := List.eq_nil_of_length_eq_zero hm
    obtain ⟨A', c', rfl, hc1, hc2⟩ := own_slice hown
    obtain ⟨i, hi, hz0, hz1, hz2⟩ := info_parts hinfo
    refine wpList_plain hgd fun K hK => ?_
    have h0 : (Builtin.lenOf (.slice none 0 c)).run P w = .ok 0 w := rfl
    have h1 : (Builtin.firstCells i.size 0 (.slice none 0 c)).run P w = .ok #[] w := rfl
    have hr : (Builtin.append_ #[t, t] o.type #[.slice A' n c', .slice none 0 c]).run P w = .ok (.slice A' n c') w := by
      cases A' <;> simp [Builtin.append_, run_underlying ht, sizeOf, typeInfo, hi, h0, hc1, h1, storeCells]
    unfold Oper.wp execOp
    simp only [ho, resolve, invoke, builtin, Sem.run_bind, Sem.run_pure, Result.andThen_ok, List.map_toArray, List.map_cons, List.map_nil, hs, hx, hr]
    refine hK _ _ ?_
    exact h A' c' w (by simpa using hown) hc1 hc2 ⟨rfl, rfl, rfl, Nat.le_refl _, fun _ _ _ => rfl⟩ (.inl rfl) (.inl rfl)
end
end Go.Proofs.Ytiadineakhcclaa
