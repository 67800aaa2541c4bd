/-
  swap: market.owner, wishes.best, and whom a person points to.
-/
import Derived.Test.YtgognkofnegobaaProg
import Derived.Test.YtgognkofnegobaaIndex
import Derived.Test.YtgognkofnegobaaIdxFuncI
import Derived.Test.YtgognkofnegobaaBase
namespace Go.Proofs.Ytgognkofnegobaa
set_option linter.unusedVariables false
set_option linter.unusedSimpArgs false
open Go.RowKit

set_option maxHeartbeats 400000 in
theorem owner_any (V : Value) (H : Option Addr) (n c B g : Nat) (has : List Nat) (w : World) (hn : has.length = n) (hlen : n ≤ 9223372036854775807) (hH : IntsA w B H (up has)) (hg : g ∈ has) :
    Calls Try.prog 70 #[.agg #[V, .slice H n c], .int .i64 g] w fun e w' => e = .returned (.int .i64 (place has g)) ∧ Below w.heap.size w w' := by
  have HN := hide hn; clear hn
  have hH1 : ∀ o, IntsA (w.alloc o) w.heap.size H (up has) := fun o => (hH.top).keep fun p hp => World.cell?_alloc_lt _ _ _ hp
  have hg' : Hid (g ∈ has) := hg
  clear hg
  go_enter Try.func70, Try.ntmps70
  go_wp2_with (go_at_call 19; refine (index_any _ _ _ _ (up has) _ _ (by rw [up_length]; exact HN.out) hlen (hH1 _)).mono ?_; rintro e w' ⟨rfl, rfl⟩)
  go_ret
  exact ⟨by rw [idx_up_mem hg'.out]; rfl, (Below.refl _ _).alloc (Nat.le_refl _) _⟩

theorem goes_best1 : Goes Try.prog 92 := goes_of Try.func92 (by kernel_rfl) (by kernel_rfl)
set_option maxHeartbeats 400000 in
theorem best1_any (M g pb : Nat) (w : World) (hM : M < 2 ^ 60) (hg : g < 60) (hc : w.cell? ⟨pb, 0, none⟩ = some (.int .i64 M)) :
    Calls Try.prog 92 #[.int .i64 g, .pointer (some ⟨pb, 0, none⟩)] w fun e w' => e = .returned (.bool (M.testBit g)) ∧ w = w' := by
  have e := hide (shr_test M g (by omega))
  go_enter Try.func92, Try.ntmps92
  go_wp2
  go_ret
  exact ⟨by rw [← e.out]; rfl, rfl⟩

set_option maxHeartbeats 400000 in
theorem best_any (A : Option Addr) (n c B i M : Nat) (W : List (List Nat)) (w : World) (hn : W.length = n) (hlen : n ≤ 9223372036854775807) (hA : RowsA w B A (upp W)) (hi : i < n) (hM : M < 2 ^ 60)
    (hl : (W.getD i []).length ≤ 9223372036854775807) (h60 : ∀ g ∈ W.getD i [], g < 60) (hg : ∃ g ∈ W.getD i [], M.testBit g = true) :
    Calls Try.prog 71 #[.slice A n c, .int .i64 i, .int .i64 M] w fun e w' => e = .returned (.int .i64 (best (W.getD i []) M)) ∧ Below w.heap.size w w' := by
  have HN := hide hn; clear hn
  obtain ⟨k, hk, ek, hb⟩ := best_idx hg
  have hA1 : RowsA (w.alloc (.cells #[.int .i64 (M : Int)] 3)) w.heap.size A (upp W) := (hA.top).keep fun p hp => World.cell?_alloc_lt _ _ _ hp
  obtain ⟨b, o, A', n', c', rfl, hbB, hc, hx, hle, hI⟩ := hA1.at_ (k := i) (by rw [upp_length, HN.out]; exact hi)
  rw [upp_getD] at hI hx
  have hlen' : Hid ((W.getD i []).length = n') := by have := hx.out; rwa [up_length] at this
  have HC := hide (indexFuncI_any 92 #[.pointer (some ⟨w.heap.size, 0, none⟩)] A' n' c' w.heap.size (up (W.getD i [])) (fun j => M.testBit ((W.getD i []).getD j 0)) _ goes_best1
    (by rw [up_length]; exact hlen'.out) (by rw [← hlen'.out]; exact hl) hI (fun j x hj hx => by
      rw [up_getD] at hx
      subst hx
      refine best1_any M _ _ _ hM (h60 _ ?_) (by rw [World.cell?_alloc_at _ _ _ _ rfl]; rfl)
      exact getD_mem (by rw [hlen'.out]; exact hj)))
  rw [← hlen'.out, ek, hlen'.out] at HC
  obtain ⟨b2, o2, x, rfl, hb2, hc2, hx2⟩ := hI.at_ (k := k) (by rw [up_length]; exact hk)
  have hx3 : Hid (x = ((best (W.getD i []) M : Nat) : Int)) := by
    show _ = _
    rw [← hx2.out, up_getD, hb]
  have hkn : k < n' := by rw [← hlen'.out]; exact hk
  clear hg h60 hb ek hx2 hl hA hA1 hI
  rw [← hx3.out]
  clear hx3
  go_enter Try.func71, Try.ntmps71
  go_wp2_with (go_at_call 85; refine (HC.out).mono ?_; rintro e w' ⟨rfl, rfl⟩)
  go_ret
  exact ⟨rfl, (Below.refl _ _).alloc (Nat.le_refl _) _⟩

set_option maxHeartbeats 400000 in
theorem next_any (A H : Option Addr) (n c n' c' B i M mb tb : Nat) (W : List (List Nat)) (has : List Nat) (w : World) (hn : W.length = n) (hlen : n ≤ 60) (hn' : has.length = n') (hlen' : n' ≤ 60)
    (hA : RowsA w B A (upp W)) (hH : IntsA w B H (up has)) (hi : i < n) (hM : M < 2 ^ 60)
    (hl : (W.getD i []).length ≤ 60) (h60 : ∀ g ∈ W.getD i [], g < 60) (hg : ∃ g ∈ W.getD i [], M.testBit g = true) (hb : best (W.getD i []) M ∈ has)
    (hm0 : w.cell? ⟨mb, 0, none⟩ = some (.slice A n c)) (hm1 : w.cell? ⟨mb, 1, none⟩ = some (.slice H n' c')) (ht : w.cell? ⟨tb, 0, none⟩ = some (.int .i64 (M : Int))) :
    Calls Try.prog 69 #[.int .i64 i, .pointer (some ⟨mb, 0, none⟩), .pointer (some ⟨tb, 0, none⟩)] w fun e w' => e = .returned (.int .i64 (nextF W has M i)) ∧ Below w.heap.size w w' := by
  have HN := hide hn
  have HN' := hide hn'
  clear hn hn'
  go_enter Try.func69, Try.ntmps69
  go_wp2
  refine wp_region_below (by kernel_rfl) (by kernel_rfl) ?_
  have hmlt : mb < w.heap.size := cell_lt hm0
  have htlt : tb < w.heap.size := cell_lt ht
  have hA1 := hA.top
  have hH1 := hH.top
  have hb' : Hid (best (W.getD i []) M ∈ has) := hb
  clear hb
  refine wpQuiet_val (.agg #[.slice A n c, .slice H n' c']) rfl (fun w' hw' => by have e0 := (hw'.cell (p := ⟨mb, 0, none⟩) hmlt).trans hm0; have e1 := (hw'.cell (p := ⟨mb, 1, none⟩) hmlt).trans hm1; go_simp) ?_
  simp only [put_lit, List.set_cons_succ, List.set_cons_zero]
  refine wpQuiet_val (.pointer (some ⟨mb, 0, none⟩)) rfl (fun w' hw' => by go_simp) ?_
  simp only [put_lit, List.set_cons_succ, List.set_cons_zero]
  refine wpQuiet_val (.slice A n c) rfl (fun w' hw' => by have e0 := (hw'.cell (p := ⟨mb, 0, none⟩) hmlt).trans hm0; go_simp) ?_
  simp only [put_lit, List.set_cons_succ, List.set_cons_zero]
  refine wpQuiet_move _ (.int .i64 i) rfl rfl rfl ?_
  simp only [put_lit, List.set_cons_succ, List.set_cons_zero]
  refine wpQuiet_val (.int .i64 (M : Int)) rfl (fun w' hw' => by have e0 := (hw'.cell (p := ⟨tb, 0, none⟩) htlt).trans ht; go_simp) ?_
  simp only [put_lit, List.set_cons_succ, List.set_cons_zero]
  have hC1 : Hid (∀ w', Below w.heap.size w w' → Calls Try.prog 71 #[.slice A n c, .int .i64 i, .int .i64 (M : Int)] w' fun e w'' => e = .returned (.int .i64 (best (W.getD i []) M : Nat)) ∧ Below w.heap.size w w'') := fun w' hw' =>
    (best_any A n c _ i M W w' HN.out (by omega) (hA1.below hw') hi hM (by omega) h60 hg).mono fun e w'' h => ⟨h.1, hw'.trans (h.2.mono hw'.size)⟩
  have hC2 : Hid (∀ w', Below w.heap.size w w' → Calls Try.prog 70 #[.agg #[.slice A n c, .slice H n' c'], .int .i64 (best (W.getD i []) M : Nat)] w' fun e w'' => e = .returned (.int .i64 (nextF W has M i : Nat)) ∧ Below w.heap.size w w'') := fun w' hw' =>
    (owner_any _ H n' c' _ _ has w' HN'.out (by omega) (hH1.below hw') hb'.out).mono fun e w'' h => ⟨h.1, hw'.trans (h.2.mono hw'.size)⟩
  refine wpQuiet_call 71 #[.slice A n c, .int .i64 i, .int .i64 (M : Int)] (.int .i64 (best (W.getD i []) M : Nat)) rfl (fun w' hw' => by go_simp) hC1.out ?_
  simp only [put_lit, List.set_cons_succ, List.set_cons_zero]
  refine wpQuiet_call 70 #[.agg #[.slice A n c, .slice H n' c'], .int .i64 (best (W.getD i []) M : Nat)] (.int .i64 (nextF W has M i : Nat)) rfl (fun w' hw' => by go_simp) hC2.out ?_
  simp only [put_lit, List.set_cons_succ, List.set_cons_zero]
  refine wpQuiet_assign _ (.int .i64 (nextF W has M i : Nat)) rfl rfl rfl ?_
  simp only [put_lit, List.set_cons_succ, List.set_cons_zero]
  refine wpQuiet_nil ?_
  intro w' hw'
  go_wp2
  go_ret
  exact ⟨rfl, hw'⟩
end Go.Proofs.Ytgognkofnegobaa
