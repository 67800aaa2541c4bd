/-
  stableCmpFunc, SortStableFunc by Due; byDue.
-/
import Derived.Test.YtiadineakhcclaaDSort
import Derived.Test.YtiadineakhcclaaInfo
import Derived.Deep.Cut
namespace Go.Proofs.Ytiadineakhcclaa
open Go.RowKit Go.Deep
set_option linter.unusedVariables false
set_option linter.unusedSimpArgs false

set_option maxHeartbeats 1600000 in
theorem stable_due (A : Option Addr) (m ac bb g n c : Nat) (L : List J4) (s0 : Nat → Nat) (w : World) (hm : L.length = m) (hm8 : m ≤ 8) (hn8 : n ≤ 8) (hlow : ∀ k, k < n → s0 k < m) (hasc : ∀ a b, a < b → b < n → s0 a < s0 b) (hA : JobsA w w.heap.size A L)
    (hAg : ∀ b o, A = some ⟨b, o, none⟩ → b ≠ g) (hbg : bb ≠ g) (hc : w.cell? ⟨bb, 0, none⟩ = some (.slice A m ac)) (hR : RowF w g n (fun k => .int .i64 (s0 k : Nat))) :
    Calls Try.prog 70 #[.slice (some ⟨g, 0, none⟩) n c, .int .i64 (n : Nat), .func (.func 91) #[] #[.pointer (some ⟨bb, 0, none⟩)]] w (SortPost (fun a => (L.getD a j0).d) s0 n g w) := by
  have HI := hide (insertion_due A m ac bb g n c L s0 w hm hm8 hn8 hlow hasc hA hAg hbg hc hR)
  have d1 : decide ((20 : Int) ≤ (n : Int)) = false := decide_eq_false (by omega)
  have d2 : decide ((20 : Int) < (n : Int)) = false := decide_eq_false (by omega)
  have d3 : decide (20 ≤ n) = false := decide_eq_false (by omega)
  have d4 : decide (20 < n) = false := decide_eq_false (by omega)
  have h20 : n < 20 := by omega
  clear hlow hasc hA hAg hbg hc hR hm
  go_enter Try.func70, Try.ntmps70
  go_wp2
  go_loopw [7, 8] (fun v7 v8 wr => v7 = .int .i64 0 ∧ v8 = .int .i64 20 ∧ wr = w) (fun _ _ _ => 0)
  case atStart => exact ⟨rfl, rfl, rfl⟩
  case round =>
    obtain ⟨rfl, rfl, rfl⟩ := hrel
    go_wp2_with (go_at_call 82; refine (HI.out).mono ?_; rintro e w1 ⟨s, h1, h2, h3, rfl⟩; have H1 := hide h1; have H2 := hide h2; have H3 := hide h3; clear h1 h2 h3)
    go_loopw [6] (fun v6 wr => v6 = .int .i64 20 ∧ wr = w1) (fun _ _ => 0)
    case atStart => exact ⟨rfl, rfl⟩
    case round =>
      obtain ⟨rfl, rfl⟩ := hrel
      go_wp2
      go_end0
      exact ⟨s, H1.out, H2.out, H3.out, rfl⟩
set_option maxHeartbeats 1600000 in
theorem sortStable_due (A : Option Addr) (m ac bb g n c : Nat) (L : List J4) (s0 : Nat → Nat) (w : World) (hm : L.length = m) (hm8 : m ≤ 8) (hn8 : n ≤ 8) (hlow : ∀ k, k < n → s0 k < m) (hasc : ∀ a b, a < b → b < n → s0 a < s0 b) (hA : JobsA w w.heap.size A L)
    (hAg : ∀ b o, A = some ⟨b, o, none⟩ → b ≠ g) (hbg : bb ≠ g) (hc : w.cell? ⟨bb, 0, none⟩ = some (.slice A m ac)) (hR : RowF w g n (fun k => .int .i64 (s0 k : Nat))) :
    Calls Try.prog 45 #[.slice (some ⟨g, 0, none⟩) n c, .func (.func 91) #[] #[.pointer (some ⟨bb, 0, none⟩)]] w (SortPost (fun a => (L.getD a j0).d) s0 n g w) := by
  have HI := hide (stable_due A m ac bb g n c L s0 w hm hm8 hn8 hlow hasc hA hAg hbg hc hR)
  clear hlow hasc hA hAg hbg hc hR hm
  go_enter Try.func45, Try.ntmps45
  go_wp2_with (go_at_call 70; refine (HI.out).mono ?_; rintro e w1 ⟨s, h1, h2, h3, rfl⟩; have H1 := hide h1; have H2 := hide h2; have H3 := hide h3; clear h1 h2 h3)
  go_end0
  exact ⟨s, H1.out, H2.out, H3.out, rfl⟩

theorem rowF_own {w : World} {base g n c : Nat} {e : TypeId} {l : List Int} (h : w.ownsRow base e 1 (.slice (some ⟨g, 0, none⟩) n c) n (l.map (Value.int .i64))) : RowF w g n (fun k => .int .i64 (l.getD k 0)) := by
  have hl : l.length = n := by have := h.1; simpa using this
  rcases h.2 with ⟨hv, _⟩ | ⟨g', cap, cur, hv, hg, hh, h1, h2, h3, h4⟩
  · cases hv
  · injection hv with e1; injection e1 with e1; injection e1 with e1
    subst e1
    refine ⟨cur, e, hh, fun k hk => ?_⟩
    have h5 : (cur.toList.take (n * 1))[k]? = (l.map (Value.int .i64))[k]? := by rw [h4]
    rw [List.getElem?_take, if_pos (by omega), Array.getElem?_toList, List.getElem?_map] at h5
    rw [h5, List.getElem?_eq_getElem (by omega), getD_cons_of (d := 0) (by omega)]; rfl
theorem ints_rowF {w : World} {g n : Nat} {s : Nat → Nat} (h : RowF w g n (fun k => .int .i64 (s k : Nat))) : IntsA w w.heap.size (some ⟨g, 0, none⟩) (up ((List.range n).map s)) := fun i hi => by
  rw [up_length, List.length_map, List.length_range] at hi
  refine ⟨g, 0, rfl, h.lt, ?_⟩
  rw [Nat.zero_add, h.cell hi, up_getD]
  congr 3
  rw [List.getD_eq_getElem?_getD]; simp [hi]
/-- The order by Due. -/
def DuePost (n : Nat) (L : List J4) (w : World) (e : Ending) (w' : World) : Prop :=
  ∃ (s : Nat → Nat) (X : Option Addr) (c' : Nat), Sorted0 (fun a => (L.getD a j0).d) id s n n ∧ e = .returned (.slice X n c') ∧ n ≤ c' ∧ IntsA w' w'.heap.size X (up ((List.range n).map s)) ∧ Below w.heap.size w w'
set_option maxRecDepth 100000 in
set_option maxHeartbeats 1600000 in
theorem byDue_any (A : Option Addr) (n c : Nat) (L : List J4) (w : World) (hn : L.length = n) (hL : JobsOk L) (hA : JobsA w w.heap.size A L) :
    Calls Try.prog 89 #[.slice A n c] w (DuePost n L w) := by
  have h8 : n ≤ 8 := by rw [← hn]; exact hL.le
  have h1 : 1 ≤ n := by rw [← hn]; exact hL.pos
  have hmf : ∀ (fn : Fn) (first cap : Array Value) (w : World), (Instr.makeFunc fn first cap).run Try.prog w = .ok (.func fn first cap) w := fun _ _ _ _ => rfl
  obtain ⟨w0, hw0⟩ : ∃ w0, w0 = w.alloc (.cells #[.slice A n c] 88) := ⟨_, rfl⟩
  have hbx : w0.heap[w.heap.size]? = some (.cells #[.slice A n c] 88 (0, 0)) := by rw [hw0]; exact alloc_new _ _ _ rfl
  have HB01 : Hid (Below w.heap.size w w0) := by subst hw0; exact (Below.refl _ _).alloc (Nat.le_refl _) _
  have HQ : Hid (∀ w', Below w0.heap.size w0 w' → w'.cell? ⟨w.heap.size, 0, none⟩ = some (.slice A n c)) := fun w' hb => blk_cell ((hb.block _ (lt_of_block hbx)).trans hbx) 0
  have hw0l : w.heap.size < w0.heap.size := lt_of_block hbx
  have HAB : Hid (∀ b o, A = some ⟨b, o, none⟩ → b < w.heap.size) := fun b o e => by
    obtain ⟨b1, o1, e1, h2, _⟩ := hA 0 (by omega)
    rw [e] at e1
    injection e1 with e1; injection e1 with e2
    omega
  have HN := hide hn
  have HJ := hide (hA.next HB01.out)
  have HW0 := hide hw0
  have qq := HQ.out w0 (Below.refl _ _)
  clear hn hL hA hw0 hbx
  go_enter Try.func89, Try.ntmps89
  go_upto_region 1 with (fail)
  rw [← HW0.out]
  go_wp2
  go_loopw [3, 7] (fun v3 v7 wr => ∃ (k c' : Nat) (X : Option Addr), k ≤ n ∧ v7 = .int .i64 k ∧ v3 = .slice X k c' ∧ k ≤ c' ∧ Hid (wr.ownsRow w0.heap.size 3 1 (.slice X k c') k ((up (List.range k)).map (Value.int .i64))) ∧ Below w0.heap.size w0 wr) (fun _ v7 _ => n - (intOf v7).toNat)
  case atStart => exact ⟨0, 0, none, Nat.zero_le _, rfl, rfl, Nat.le_refl _, hide (World.ownsRow_nil _ _ _ _), Below.refl _ _⟩
  case round =>
    obtain ⟨k, c', X, hk, rfl, rfl, hkc, HO, hb⟩ := hrel
    have HB := hide hb
    obtain ⟨w1, rfl⟩ : ∃ w1 : World, w1 = wr := ⟨_, rfl⟩
    by_cases hlt : k < n
    · have hkn : (k : Int) < (n : Int) := by omega
      clear hb
      go_wp2_with (at_builtin; refine wpList_app1 (w0 := w1) _ _ 41 3 (.int .i64 0) 8 rfl rfl Try.underlying41 info_int rfl w0.heap.size (.slice X k c') k _ (.int .i64 (k : Nat)) rfl rfl rfl ⟨_, rfl⟩ HO.out rfl (by omega) (by omega) (by have := HB.out.size; omega) ?_; intro g2 cg w3 hown1 hd1 hd2 hg1 hgl2 hgrow; have HOW1 := hide hown1; have HG := hide hgrow; clear hown1 hgrow)
      go_roundw
      case rel =>
        refine ⟨k + 1, cg, some ⟨g2, 0, none⟩, by omega, by go_num, rfl, hd1, hide ?_, HB.out.grown HG.out HB.out.size (fun q hq => (own_lt HO.out q hq).1)⟩
        have e9 : (up (List.range (k + 1))).map (Value.int .i64) = (up (List.range k)).map (Value.int .i64) ++ [Value.int .i64 (k : Int)] := by simp [up, List.range_succ]
        rw [e9]; exact HOW1.out
      case measure => simp [intOf] <;> omega
    · obtain rfl : n = k := by omega
      obtain ⟨g, cc, hX, hg1, hg2, hg3, hg4⟩ := own_form HO.out (by omega)
      injection hX with hX1 _ hX2
      subst hX1; subst hX2
      have HR : Hid (RowF w1 g n (fun k => .int .i64 ((id k : Nat) : Int))) := (rowF_own HO.out).congr fun k hk => by
        rw [up_getD]; congr 2; rw [List.getD_eq_getElem?_getD]; simp [hk]
      have HS := hide (sortStable_due A n c w.heap.size g n c' L id w1 HN.out h8 h8 (fun k hk => hk) (fun a b h _ => h) (HJ.out.next hb) (fun b o e h => by have := HAB.out b o e; omega) (by omega) (HQ.out _ hb) HR.out)
      have qq1 := HQ.out _ hb
      clear hb
      go_wp2_with (go_at_call 45; refine (HS.out).mono ?_; rintro e w5 ⟨s, h1, h2, h3, rfl⟩; have H1 := hide h1; have H2 := hide h2; have H3 := hide h3; clear h1 h2 h3)
      go_ret
      exact ⟨s, some ⟨g, 0, none⟩, _, H1.out, rfl, hkc, ints_rowF H2.out, HB01.out.trans ((HB.out.grown H3.out HB.out.size (fun q hq => by injection hq with hq; omega)).mono HB01.out.size)⟩
end Go.Proofs.Ytiadineakhcclaa
