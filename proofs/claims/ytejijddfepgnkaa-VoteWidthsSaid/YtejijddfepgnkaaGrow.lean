/-
  vote: Path's search: the first path, candidate by candidate, that is as wide.
-/
import Derived.Test.YtejijddfepgnkaaAppWp
import Derived.Test.YtejijddfepgnkaaCloneOwn
import Derived.Test.YtejijddfepgnkaaContains
import Derived.Test.YtejijddfepgnkaaUpTo
import Derived.Test.YtejijddfepgnkaaMargins
import Derived.Laws.Cover3
namespace Go.Proofs.Ytejijddfepgnkaa
open Go.RowKit
set_option linter.unusedVariables false
set_option linter.unusedSimpArgs false

theorem goes_grow : Goes Try.prog 74 := goes_of Try.func74 (by kernel_rfl) (by kernel_rfl)
theorem ints_cell (w : World) (x : Nat) : IntsA (w.alloc (.cells #[.int .i64 (x : Nat)] 3)) (w.heap.size + 1) (some ⟨w.heap.size, 0, none⟩) [(x : Int)] := fun i hi => by
  obtain rfl : i = 0 := by simpa using hi
  refine ⟨w.heap.size, 0, rfl, by omega, ?_⟩
  rw [World.cell?_alloc_at _ _ _ _ rfl]; rfl

/-- The search: d candidates more behind the path p. -/
def pthF (M : Mat) (n c : Nat) (wd : Int) : Nat → List Nat → Option (List Nat)
  | 0, p => if p.getD (p.length - 1) 0 = c then some p else none
  | d + 1, p => (List.range n).findSome? fun x => if x ∈ p ∨ M (p.getD (p.length - 1) 0) x < wd then none else pthF M n c wd d (p ++ [x])
theorem findSome_at {α : Type} {f : Nat → Option α} {n k : Nat} {r : α} (hk : k < n) (hno : ∀ i, i < k → f i = none) (hx : f k = some r) : (List.range n).findSome? f = some r := by
  have e : List.range n = List.range k ++ k :: (List.range (n - k - 1)).map (k + 1 + ·) := by
    have h1 : List.range (k + (n - k)) = List.range k ++ (List.range (n - k)).map (k + ·) := List.range_add
    rw [show k + (n - k) = n by omega] at h1
    obtain ⟨d, hd⟩ : ∃ d, n - k = d + 1 := ⟨n - k - 1, by omega⟩
    rw [h1, hd, List.range_succ_eq_map, List.map_cons, List.map_map]
    congr 2
    rw [show d + 1 - 1 = d by omega]
    exact List.map_congr_left fun a _ => by simp; omega
  have h0 : (List.range k).findSome? f = none := by
    rw [List.findSome?_eq_none_iff]
    intro i hi
    exact hno i (List.mem_range.1 hi)
  rw [e, List.findSome?_append, h0, List.findSome?_cons, hx]; rfl
theorem findSome_no {α : Type} {f : Nat → Option α} {n : Nat} (hno : ∀ i, i < n → f i = none) : (List.range n).findSome? f = none := by
  rw [List.findSome?_eq_none_iff]
  intro i hi
  exact hno i (List.mem_range.1 hi)

/-- A path, or nil. -/
def GrowRes (r : Option (List Nat)) (u : Value) (w' : World) : Prop :=
  match r with
  | none => u = .slice none 0 0
  | some q => ∃ X cx, u = .slice (some X) q.length cx ∧ q.length ≤ cx ∧ IntsA w' w'.heap.size (some X) (up q)
def GrowPost (r : Option (List Nat)) (w : World) (e : Ending) (w' : World) : Prop := ∃ u, e = .returned u ∧ GrowRes r u w' ∧ Below w.heap.size w w'
/-- What the search reads. -/
structure PMem (w : World) (pc pl pm pw pg : Nat) (c : Nat) (wd : Int) (A : Option Addr) (v cc : Nat) (M : Mat) : Prop where
  qc : w.cell? ⟨pc, 0, none⟩ = some (.int .i64 (c : Nat))
  ql : w.cell? ⟨pl, 0, none⟩ = some (.slice A v cc)
  qm : w.heap[pm]? = some (.cells (matC M) 80 (0, 0))
  qw : w.cell? ⟨pw, 0, none⟩ = some (.int .i64 wd)
  qg : w.cell? ⟨pg, 0, none⟩ = some (.func (.func 74) #[] #[.pointer (some ⟨pc, 0, none⟩), .pointer (some ⟨pl, 0, none⟩), .pointer (some ⟨pm, 0, none⟩), .pointer (some ⟨pw, 0, none⟩), .pointer (some ⟨pg, 0, none⟩)])
theorem PMem.next {w w' : World} {pc pl pm pw pg c : Nat} {wd : Int} {A : Option Addr} {v cc : Nat} {M : Mat} (h : PMem w pc pl pm pw pg c wd A v cc M) (hb : Below w.heap.size w w') : PMem w' pc pl pm pw pg c wd A v cc M :=
  ⟨(hb.cell (p := ⟨pc, 0, none⟩) (cell_lt h.qc)).trans h.qc, (hb.cell (p := ⟨pl, 0, none⟩) (cell_lt h.ql)).trans h.ql, (hb.block _ (lt_of_block h.qm)).trans h.qm, (hb.cell (p := ⟨pw, 0, none⟩) (cell_lt h.qw)).trans h.qw, (hb.cell (p := ⟨pg, 0, none⟩) (cell_lt h.qg)).trans h.qg⟩

set_option maxRecDepth 100000 in
set_option maxHeartbeats 3200000 in
theorem pgrow_any (M : Mat) (n c : Nat) (wd : Int) (A : Option Addr) (v cc : Nat) (W : List (List Nat)) (pc pl pm pw pg : Nat) (hW : BOk W v n) : ∀ (d : Nat) (path : List Nat) (X : Option Addr) (p cx long : Nat) (w : World), path.length = p → p + d = long → 1 ≤ p → long ≤ 60 → (∀ y ∈ path, y < n) → p ≤ cx → IntsA w w.heap.size X (up path) → RowsA w w.heap.size A (upp W) → PMem w pc pl pm pw pg c wd A v cc M →
    Calls Try.prog 74 (#[.slice X p cx, .int .i64 (long : Nat)] ++ #[.pointer (some ⟨pc, 0, none⟩), .pointer (some ⟨pl, 0, none⟩), .pointer (some ⟨pm, 0, none⟩), .pointer (some ⟨pw, 0, none⟩), .pointer (some ⟨pg, 0, none⟩)]) w (GrowPost (pthF M n c wd d path) w) := by
  intro d
  induction d with
  | zero =>
    intro path X p cx long w hp hl hp1 hl60 hyn hcx hX hA hM
    obtain rfl : long = p := by omega
    obtain ⟨b, o, y, rfl, hb, hcy, hy⟩ := hX.at_ (k := long - 1) (by rw [up_length, hp]; omega)
    rw [up_getD] at hy
    obtain ⟨la, hla⟩ : ∃ la, path.getD (long - 1) 0 = la := ⟨_, rfl⟩
    obtain rfl : y = (la : Int) := by rw [← hy.out, hla]
    have hi1 : (long : Int) - 1 = ((long - 1 : Nat) : Int) := by omega
    have hi2 : ((long - 1 : Nat) : Int) < (long : Int) := by omega
    have zc := hM.qc
    have HX := hide hX
    have HP := hide hp
    by_cases hlc : la = c
    · have HR : Hid (pthF M n c wd 0 path = some path) := by show (if path.getD (path.length - 1) 0 = c then some path else none) = _; rw [hp, hla, if_pos hlc]
      rw [HR.out]
      obtain rfl : c = la := hlc.symm
      clear hX hA hM hy hla hyn hp HR
      go_enter Try.func74, Try.ntmps74
      go_wp2
      go_ret
      exact ⟨_, rfl, ⟨⟨b, o, none⟩, cx, by rw [HP.out]; rfl, by rw [HP.out]; exact hcx, HX.out⟩, Below.refl _ _⟩
    · have HR : Hid (pthF M n c wd 0 path = none) := by show (if path.getD (path.length - 1) 0 = c then some path else none) = _; rw [hp, hla, if_neg hlc]
      rw [HR.out]
      have hne : ¬ (la : Int) = (c : Int) := by omega
      have hne1 : ((la : Int) == (c : Int)) = false := by simp [hne]
      have hne2 : (la == c) = false := by simp [hlc]
      clear hX hA hM hy hla hyn hp HR
      go_enter Try.func74, Try.ntmps74
      go_wp2
      go_ret
      exact ⟨_, rfl, rfl, Below.refl _ _⟩
  | succ d ih =>
    intro path X p cx long w hp hl hp1 hl60 hyn hcx hX hA hM
    have hn5 := hW.nle
    obtain ⟨b, o, y, rfl, hb, hcy, hy⟩ := hX.at_ (k := p - 1) (by rw [up_length, hp]; omega)
    rw [up_getD] at hy
    obtain ⟨la, hla⟩ : ∃ la, path.getD (p - 1) 0 = la := ⟨_, rfl⟩
    obtain rfl : y = (la : Int) := by rw [← hy.out, hla]
    have hlan : la < n := by rw [← hla]; exact hyn _ (getD_mem (by omega))
    have hi1 : (p : Int) - 1 = ((p - 1 : Nat) : Int) := by omega
    have hi2 : ((p - 1 : Nat) : Int) < (p : Int) := by omega
    have hne : ¬ (p : Int) = (long : Int) := by omega
    have hne1 : ((p : Int) == (long : Int)) = false := by simp [hne]
    have hne2 : (p == long) = false := by simp; omega
    have zl := hM.ql
    have HX := hide hX
    have HA := hide hA
    have HM := hide hM
    have HP := hide hp
    have HYN := hide hyn
    have hq := fun (w : World) (a : Option Addr) (l c : Nat) => Go.run_neq_slice_nil (P := Try.prog) w 23 _ a l c Try.underlying23
    have HNA := hide (names_any A v n cc w.heap.size W w hW hA)
    have HPF : Hid (pthF M n c wd (d + 1) path = (List.range n).findSome? fun x => if x ∈ path ∨ M la x < wd then none else pthF M n c wd d (path ++ [x])) := by show (List.range n).findSome? _ = _; rw [hp, hla]
    have HIH0 := hide ih
    rw [HPF.out]
    clear hX hA hM hy hla hyn hp ih HPF
    go_enter Try.func74, Try.ntmps74
    go_wp2_with (go_at_call 60; refine (HNA.out).mono ?_; rintro e w' ⟨rfl, rfl⟩)
    go_loopw [29] (fun i wr => ∃ x : Nat, x ≤ n ∧ i = .int .i64 x ∧ Hid (∀ x', x' < x → (if x' ∈ path ∨ M la x' < wd then none else pthF M n c wd d (path ++ [x'])) = none) ∧ Below w.heap.size w wr) (fun i _ => n - (intOf i).toNat)
    case atStart => exact ⟨0, Nat.zero_le _, rfl, fun x' h => absurd h (by omega), Below.refl _ _⟩
    case round =>
      obtain ⟨x, hxn, rfl, hno, hbel⟩ := hrel
      have HBE := hide hbel
      have hsz := hbel.size
      by_cases hlt : x < n
      · have hMr := HM.out.next hbel
        have HCT := hide (fun w' (h : Below wr.heap.size wr w') => contains_any (some ⟨b, o, none⟩) p cx w.heap.size (up path) (x : Int) w' (by rw [up_length, HP.out]) (by omega) ((HX.out.below hbel).below (h.mono hsz)))
        have hmem : decide ((x : Int) ∈ up path) = decide (x ∈ path) := by rw [Bool.eq_iff_iff, decide_eq_true_eq, decide_eq_true_eq, mem_up]
        rw [hmem] at HCT
        have hx5 : (x : Int) < 5 := by omega
        have hla5 : (la : Int) < 5 := by omega
        by_cases hxp : x ∈ path
        · rw [decide_eq_true hxp] at HCT
          have HNX : Hid (∀ x', x' < x + 1 → (if x' ∈ path ∨ M la x' < wd then none else pthF M n c wd d (path ++ [x'])) = none) := fun x' h => by
            rcases (by omega : x' < x ∨ x' = x) with h1 | rfl
            · exact hno.out x' h1
            · rw [if_pos (.inl hxp)]
          clear hbel hMr hmem hxp
          go_wp2_with fail
          refine wp_region_below (by kernel_rfl) (by kernel_rfl) ?_
          refine wpQuiet_val' (.slice (some ⟨b, o, none⟩) p cx) (by rfl) (fun w' hw' => by go_simp) ?_
          simp only [put_lit, List.set_cons_succ, List.set_cons_zero]
          refine wpQuiet_val' (.int .i64 (x : Nat)) (by rfl) (fun w' hw' => by go_simp) ?_
          simp only [put_lit, List.set_cons_succ, List.set_cons_zero]
          refine wpQuiet_call' 41 #[.slice (some ⟨b, o, none⟩) p cx, .int .i64 (x : Nat)] (.bool true) (by rfl) (fun w' hw' => by go_simp) (fun w' hw' => (HCT.out w' hw').mono fun e w9 h9 => ⟨h9.1, by rw [← h9.2]; exact hw'⟩) ?_
          simp only [put_lit, List.set_cons_succ, List.set_cons_zero]
          refine wpQuiet_val' (.bool true) (by rfl) (fun w' hw' => by go_simp) ?_
          simp only [put_lit, List.set_cons_succ, List.set_cons_zero]
          go_big_quiet_skip
          go_big_quiet_skip
          go_big_quiet_skip
          go_big_quiet_skip
          go_big_quiet_skip
          go_big_quiet_skip
          go_big_quiet_skip
          refine wpQuiet_val' (.bool true) (by rfl) (fun w' hw' => by go_simp) ?_
          simp only [put_lit, List.set_cons_succ, List.set_cons_zero]
          refine wpQuiet_nil ?_
          intro wa hba
          have HB9 := hide (HBE.out.trans (hba.mono hsz))
          clear hba
          go_wp2
          go_roundw
          case rel => exact ⟨x + 1, by omega, by go_num, HNX, HB9.out⟩
          case measure => simp [intOf]; omega
        · rw [decide_eq_false hxp] at HCT
          have zm : wr.cell? ⟨pm, la * 5 + x, none⟩ = some (.int .i64 (M la x)) := (blk_cell hMr.qm _).trans (matC_at M (by omega) (by omega))
          have lm : pm < wr.heap.size := lt_of_block hMr.qm
          have zw := hMr.qw
          have lw : pw < wr.heap.size := cell_lt zw
          obtain ⟨g, hg⟩ : ∃ g, M la x = g := ⟨_, rfl⟩
          rw [hg] at zm
          by_cases hgw : g < wd
          · have dg : decide (g < wd) = true := decide_eq_true hgw
            have HNX : Hid (∀ x', x' < x + 1 → (if x' ∈ path ∨ M la x' < wd then none else pthF M n c wd d (path ++ [x'])) = none) := fun x' h => by
              rcases (by omega : x' < x ∨ x' = x) with h1 | rfl
              · exact hno.out x' h1
              · rw [if_pos (.inr (by rw [hg]; exact hgw))]
            clear hbel hMr hmem hg hgw
            go_wp2_with fail
            refine wp_region_below (by kernel_rfl) (by kernel_rfl) ?_
            refine wpQuiet_val' (.slice (some ⟨b, o, none⟩) p cx) (by rfl) (fun w' hw' => by go_simp) ?_
            simp only [put_lit, List.set_cons_succ, List.set_cons_zero]
            refine wpQuiet_val' (.int .i64 (x : Nat)) (by rfl) (fun w' hw' => by go_simp) ?_
            simp only [put_lit, List.set_cons_succ, List.set_cons_zero]
            refine wpQuiet_call' 41 #[.slice (some ⟨b, o, none⟩) p cx, .int .i64 (x : Nat)] (.bool false) (by rfl) (fun w' hw' => by go_simp) (fun w' hw' => (HCT.out w' hw').mono fun e w9 h9 => ⟨h9.1, by rw [← h9.2]; exact hw'⟩) ?_
            simp only [put_lit, List.set_cons_succ, List.set_cons_zero]
            refine wpQuiet_val' (.bool false) (by rfl) (fun w' hw' => by go_simp) ?_
            simp only [put_lit, List.set_cons_succ, List.set_cons_zero]
            refine wpQuiet_val' (.int .i64 (la : Nat)) (by rfl) (fun w' hw' => by go_simp) ?_
            simp only [put_lit, List.set_cons_succ, List.set_cons_zero]
            refine wpQuiet_val' (.int .i64 (x : Nat)) (by rfl) (fun w' hw' => by go_simp) ?_
            simp only [put_lit, List.set_cons_succ, List.set_cons_zero]
            refine wpQuiet_val' (.pointer (some ⟨pm, la * 5, none⟩)) (by rfl) (fun w' hw' => by go_simp) ?_
            simp only [put_lit, List.set_cons_succ, List.set_cons_zero]
            refine wpQuiet_val' (.pointer (some ⟨pm, la * 5 + x, none⟩)) (by rfl) (fun w' hw' => by go_simp) ?_
            simp only [put_lit, List.set_cons_succ, List.set_cons_zero]
            refine wpQuiet_val' (.int .i64 g) (by rfl) (fun w' hw' => by have e0 := (hw'.cell (p := ⟨pm, la * 5 + x, none⟩) lm).trans zm; go_simp) ?_
            simp only [put_lit, List.set_cons_succ, List.set_cons_zero]
            refine wpQuiet_val' (.int .i64 wd) (by rfl) (fun w' hw' => by have e0 := (hw'.cell (p := ⟨pw, 0, none⟩) lw).trans zw; go_simp) ?_
            simp only [put_lit, List.set_cons_succ, List.set_cons_zero]
            refine wpQuiet_val' (.bool true) (by rfl) (fun w' hw' => by go_simp) ?_
            simp only [put_lit, List.set_cons_succ, List.set_cons_zero]
            refine wpQuiet_val' (.bool true) (by rfl) (fun w' hw' => by go_simp) ?_
            simp only [put_lit, List.set_cons_succ, List.set_cons_zero]
            refine wpQuiet_nil ?_
            intro wa hba
            have HB9 := hide (HBE.out.trans (hba.mono hsz))
            clear hba
            go_wp2
            go_roundw
            case rel => exact ⟨x + 1, by omega, by go_num, HNX, HB9.out⟩
            case measure => simp [intOf]; omega
          · have dg : decide (g < wd) = false := decide_eq_false hgw
            obtain ⟨R, hR⟩ : ∃ R, pthF M n c wd d (path ++ [x]) = R := ⟨_, rfl⟩
            have HST : Hid ((if x ∈ path ∨ M la x < wd then none else pthF M n c wd d (path ++ [x])) = R) := by
              show _ = _
              rw [← hR]
              exact if_neg (fun h => by rcases h with h | h; exact hxp h; exact hgw (by rw [← hg]; exact h))
            have HRR := hide hR
            clear hR
            have HMR := hide hMr
            clear hbel hMr hmem hg hgw hxp
            go_wp2_with fail
            refine wp_region_below (by kernel_rfl) (by kernel_rfl) ?_
            refine wpQuiet_val' (.slice (some ⟨b, o, none⟩) p cx) (by rfl) (fun w' hw' => by go_simp) ?_
            simp only [put_lit, List.set_cons_succ, List.set_cons_zero]
            refine wpQuiet_val' (.int .i64 (x : Nat)) (by rfl) (fun w' hw' => by go_simp) ?_
            simp only [put_lit, List.set_cons_succ, List.set_cons_zero]
            refine wpQuiet_call' 41 #[.slice (some ⟨b, o, none⟩) p cx, .int .i64 (x : Nat)] (.bool false) (by rfl) (fun w' hw' => by go_simp) (fun w' hw' => (HCT.out w' hw').mono fun e w9 h9 => ⟨h9.1, by rw [← h9.2]; exact hw'⟩) ?_
            simp only [put_lit, List.set_cons_succ, List.set_cons_zero]
            refine wpQuiet_val' (.bool false) (by rfl) (fun w' hw' => by go_simp) ?_
            simp only [put_lit, List.set_cons_succ, List.set_cons_zero]
            refine wpQuiet_val' (.int .i64 (la : Nat)) (by rfl) (fun w' hw' => by go_simp) ?_
            simp only [put_lit, List.set_cons_succ, List.set_cons_zero]
            refine wpQuiet_val' (.int .i64 (x : Nat)) (by rfl) (fun w' hw' => by go_simp) ?_
            simp only [put_lit, List.set_cons_succ, List.set_cons_zero]
            refine wpQuiet_val' (.pointer (some ⟨pm, la * 5, none⟩)) (by rfl) (fun w' hw' => by go_simp) ?_
            simp only [put_lit, List.set_cons_succ, List.set_cons_zero]
            refine wpQuiet_val' (.pointer (some ⟨pm, la * 5 + x, none⟩)) (by rfl) (fun w' hw' => by go_simp) ?_
            simp only [put_lit, List.set_cons_succ, List.set_cons_zero]
            refine wpQuiet_val' (.int .i64 g) (by rfl) (fun w' hw' => by have e0 := (hw'.cell (p := ⟨pm, la * 5 + x, none⟩) lm).trans zm; go_simp) ?_
            simp only [put_lit, List.set_cons_succ, List.set_cons_zero]
            refine wpQuiet_val' (.int .i64 wd) (by rfl) (fun w' hw' => by have e0 := (hw'.cell (p := ⟨pw, 0, none⟩) lw).trans zw; go_simp) ?_
            simp only [put_lit, List.set_cons_succ, List.set_cons_zero]
            refine wpQuiet_val' (.bool false) (by rfl) (fun w' hw' => by go_simp) ?_
            simp only [put_lit, List.set_cons_succ, List.set_cons_zero]
            refine wpQuiet_val' (.bool false) (by rfl) (fun w' hw' => by go_simp) ?_
            simp only [put_lit, List.set_cons_succ, List.set_cons_zero]
            refine wpQuiet_nil ?_
            intro wa hba
            have HB9 := hide (HBE.out.trans (hba.mono hsz))
            have hszr : wr.heap.size ≤ wa.heap.size := hba.size
            have hMa := HMR.out.next hba
            clear hba zm lm zw lw
            have zg := hMa.qg
            have lg : pg < wa.heap.size := cell_lt zg
            have HSS : Hid (∀ w', Below wa.heap.size wa w' → w'.cell? ⟨pg, 0, none⟩ = some (.func (.func 74) #[] #[.pointer (some ⟨pc, 0, none⟩), .pointer (some ⟨pl, 0, none⟩), .pointer (some ⟨pm, 0, none⟩), .pointer (some ⟨pw, 0, none⟩), .pointer (some ⟨pg, 0, none⟩)]) ∧ Below wa.heap.size wa w') := fun w' h => ⟨(h.cell (p := ⟨pg, 0, none⟩) lg).trans zg, h⟩
            have HCL : Hid (∀ w', Below wa.heap.size wa w' → Calls Try.prog 63 #[.slice (some ⟨b, o, none⟩) p cx] w' fun e w'' => ∃ A' c', e = .returned (.slice A' p c') ∧ p ≤ c' ∧ w''.ownsRow w'.heap.size 3 1 (.slice A' p c') p ((up path).map (Value.int .i64)) ∧ Below w'.heap.size w' w'') := fun w' h =>
              (clone_own (some ⟨b, o, none⟩) p cx w.heap.size (up path) w' (by rw [up_length, HP.out]) (by omega) ((HX.out.below HB9.out).below (h.mono HB9.out.size))).mono fun e w'' ⟨A', c', h1, h2, _, _, h5, _, h7⟩ => ⟨A', c', h1, h2, h7, h5⟩
            have HIH : Hid (∀ A6 c6 w6, Below wa.heap.size wa w6 → p + 1 ≤ c6 → IntsA w6 w6.heap.size A6 (up (path ++ [x])) → Calls Try.prog 74 (#[.slice A6 (p + 1) c6, .int .i64 (long : Nat)] ++ #[.pointer (some ⟨pc, 0, none⟩), .pointer (some ⟨pl, 0, none⟩), .pointer (some ⟨pm, 0, none⟩), .pointer (some ⟨pw, 0, none⟩), .pointer (some ⟨pg, 0, none⟩)]) w6 (GrowPost (pthF M n c wd d (path ++ [x])) w6)) := fun A6 c6 w6 h h1 h2 =>
              HIH0.out (path ++ [x]) A6 (p + 1) c6 long w6 (by simp [HP.out]) (by omega) (by omega) hl60 (fun y hy => by
                rcases List.mem_append.1 hy with h9 | h9
                · exact HYN.out y h9
                · rw [List.mem_singleton] at h9; omega) h1 h2 (HA.out.next (HB9.out.trans (h.mono HB9.out.size))) (hMa.next h)
            rw [HRR.out] at HIH
            clear hMa
            go_wp2_with fail
            go_cut [12] (fun u12 w1 => GrowRes R u12 w1 ∧ Below wa.heap.size wa w1)
            case first =>
              refine wp_region_noPanic ?_
              refine wp_region_held_drew (S := (fun w' => w'.cell? ⟨pg, 0, none⟩ = some (.func (.func 74) #[] #[.pointer (some ⟨pc, 0, none⟩), .pointer (some ⟨pl, 0, none⟩), .pointer (some ⟨pm, 0, none⟩), .pointer (some ⟨pw, 0, none⟩), .pointer (some ⟨pg, 0, none⟩)]) ∧ Below wa.heap.size wa w')) (by kernel_rfl) ⟨zg, (Below.refl _ wa).drew⟩ (fun hHeld => ?_)
              show wpAnyH _ _ _ _ _ _ (#[false, false, false, false, false, false, false, false, false] : Array Bool) _ _
              refine wpAnyH_take (i := 0) (v := .func (.func 74) #[] #[.pointer (some ⟨pc, 0, none⟩), .pointer (some ⟨pl, 0, none⟩), .pointer (some ⟨pm, 0, none⟩), .pointer (some ⟨pw, 0, none⟩), .pointer (some ⟨pg, 0, none⟩)]) rfl (by kernel_rfl) (by kernel_rfl) (by kernel_rfl) (fun _ _ _ h => h) (Or.inl ⟨by rfl, ?_⟩) hHeld ?_
              · (intro w' hSw; obtain ⟨y1, y2⟩ := hSw; go_simp)
              try simp only [Act.put, List.setIfInBounds_toArray, List.set_cons_zero, List.set_cons_succ]
              refine wpAnyH_take (i := 1) (v := .slice (some ⟨b, o, none⟩) p cx) rfl (by kernel_rfl) (by kernel_rfl) (by kernel_rfl) (fun _ _ _ h => h) (Or.inl ⟨by rfl, ?_⟩) hHeld ?_
              · (intro w' hSw; obtain ⟨y1, y2⟩ := hSw; go_simp)
              try simp only [Act.put, List.setIfInBounds_toArray, List.set_cons_zero, List.set_cons_succ]
              refine wpAnyH_take (i := 3) (v := .int .i64 (x : Nat)) rfl (by kernel_rfl) (by kernel_rfl) (by kernel_rfl) (fun _ _ _ h => h) (Or.inl ⟨by rfl, ?_⟩) hHeld ?_
              · (intro w' hSw; obtain ⟨y1, y2⟩ := hSw; go_simp)
              try simp only [Act.put, List.setIfInBounds_toArray, List.set_cons_zero, List.set_cons_succ]
              refine wpAnyH_take (i := 6) (v := .int .i64 (long : Nat)) rfl (by kernel_rfl) (by kernel_rfl) (by kernel_rfl) (fun _ _ _ h => h) (Or.inl ⟨by rfl, ?_⟩) hHeld ?_
              · (intro w' hSw; obtain ⟨y1, y2⟩ := hSw; go_simp)
              try simp only [Act.put, List.setIfInBounds_toArray, List.set_cons_zero, List.set_cons_succ]
              have hBd : Below wa.heap.size wa wa.drew := (Below.refl _ wa).drew
              clear hHeld
              refine wpAnyH_ready (rs := [2, 4]) (by kernel_rfl) (by simp) ?_
              refine AllReadyH.cons rfl (fun K hK => ?_) (AllReadyH.cons rfl (fun K hK => ?_) AllReadyH.nil)
              · go_simp
                refine (HCL.out _ hBd).mono ?_
                rintro e w5 ⟨A5, c5, rfl, hc5, hown5, hb5⟩
                have HB5 := hide (hBd.trans (hb5.mono hBd.size))
                have HOW5 := hide hown5
                have hbas5 := hb5.size
                clear hown5 hb5
                try go_wp2_with fail
                refine hK.out _ _ (HSS.out _ HB5.out) (fun hHeld => ?_)
                clear hK K
                try simp only [Act.put, List.setIfInBounds_toArray, List.set_cons_zero, List.set_cons_succ]
                refine wpAnyH_ready (rs := [4]) (by kernel_rfl) (by simp) ?_
                refine AllReadyH.cons rfl (fun K hK => ?_) AllReadyH.nil
                clear hHeld
                go_simp
                have hbC : Below wa.heap.size wa (w5.alloc (.cells #[.int .i64 (x : Nat)] 3)) := HB5.out.alloc HB5.out.size _
                refine hK.out _ _ (HSS.out _ hbC) (fun hHeld => ?_)
                clear hK K
                try simp only [Act.put, List.setIfInBounds_toArray, List.set_cons_zero, List.set_cons_succ]
                obtain ⟨bas, hbase⟩ : ∃ bas, bas = wa.drew.heap.size := ⟨_, rfl⟩
                have hown : (w5.alloc (.cells #[.int .i64 (x : Nat)] 3)).ownsRow bas 3 1 (.slice A5 p c5) p ((up path).map (Value.int .i64)) := by rw [hbase]; exact HOW5.out.alloc _
                have hIx : IntsA (w5.alloc (.cells #[.int .i64 (x : Nat)] 3)) (w5.heap.size + 1) (some ⟨w5.heap.size, 0, none⟩) [(x : Int)] := ints_cell _ _
                have hbas : bas ≤ (w5.alloc (.cells #[.int .i64 (x : Nat)] 3)).heap.size := by rw [hbase]; exact Nat.le_trans hbas5 (by simp)
                have hbwr : wa.heap.size ≤ bas := by rw [hbase]; exact Nat.le_refl _
                refine wpAnyH_ready (rs := [5]) (by kernel_rfl) (by simp) ?_
                refine AllReadyH.cons rfl (fun K hK => ?_) AllReadyH.nil
                clear hHeld
                refine wp_appInts _ _ 23 3 (.int .i64 0) 8 rfl Try.underlying23 info_int rfl bas (.slice A5 p c5) p _ (by simp [Act.eval]) ⟨w5.heap.size, 0, none⟩ 1 1 _ [(x : Int)] (by simp [Act.eval]) rfl hIx hown (by omega) (by omega) hbas ?_
                intro A6 c6 w6 hown6 hc6 hc6m hgr
                have hbD : Below wa.heap.size wa w6 := hbC.grown hgr hbC.size (fun q hq => by have := (own_lt hown q hq).1; omega)
                have hI6 : IntsA w6 w6.heap.size A6 (up (path ++ [x])) := ints_of_own (by simpa [up] using hown6)
                have HI6 := hide hI6
                have HB6 := hide hbD
                have HC6 := hide hc6
                clear hown6 hgr hI6 hbD hIx hown hbas hbC hc6
                refine hK.out _ _ (HSS.out _ HB6.out) (fun hHeld => ?_)
                clear hK K
                try simp only [Act.put, List.setIfInBounds_toArray, List.set_cons_zero, List.set_cons_succ]
                refine wpAnyH_ready (rs := [7]) (by kernel_rfl) (by simp) ?_
                refine AllReadyH.cons rfl (fun K hK => ?_) AllReadyH.nil
                clear hHeld
                refine wp_callv2 74 #[.pointer (some ⟨pc, 0, none⟩), .pointer (some ⟨pl, 0, none⟩), .pointer (some ⟨pm, 0, none⟩), .pointer (some ⟨pw, 0, none⟩), .pointer (some ⟨pg, 0, none⟩)] _ _ _ (.slice A6 (p + 1) c6) (.int .i64 (long : Nat)) _ rfl (by simp [Act.eval]) (by simp [Act.eval]) (by simp [Act.eval]) goes_grow ((HIH.out _ _ _ HB6.out HC6.out HI6.out).mono ?_)
                rintro e w7 ⟨u, rfl, hres, hb7⟩
                refine ⟨u, rfl, ?_⟩
                have HRES := hide hres
                have HB7 := hide (HB6.out.trans (hb7.mono HB6.out.size))
                clear hres hb7
                try simp only [List.getElem_toArray, List.getElem_cons_succ, List.getElem_cons_zero, put_lit, List.set_cons_zero, List.set_cons_succ]
                refine hK.out _ _ (HSS.out _ HB7.out) (fun hHeld => ?_)
                clear hK K
                try simp only [Act.put, List.setIfInBounds_toArray, List.set_cons_zero, List.set_cons_succ]
                refine wpAnyH_take (i := 8) (v := u) rfl (by kernel_rfl) (by kernel_rfl) (by kernel_rfl) (fun _ _ _ h => h) (Or.inl ⟨by rfl, ?_⟩) hHeld ?_
                · (intro w' hSw; obtain ⟨y1, y2⟩ := hSw; go_simp)
                try simp only [List.getElem_toArray, List.getElem_cons_succ, List.getElem_cons_zero, put_lit, List.set_cons_zero, List.set_cons_succ]
                refine wpAnyH_done (by kernel_rfl) ?_ _
                refine NoPanic.normal ?_
                go_wp2_with fail
                go_meet
                exact ⟨HRES.out, HB7.out⟩
              · go_simp
                have hbB : Below wa.heap.size wa (wa.drew.alloc (.cells #[.int .i64 (x : Nat)] 3)) := hBd.alloc (Nat.le_refl _) _
                refine hK.out _ _ (HSS.out _ hbB) (fun hHeld => ?_)
                clear hK K
                try simp only [Act.put, List.setIfInBounds_toArray, List.set_cons_zero, List.set_cons_succ]
                refine wpAnyH_ready (rs := [2]) (by kernel_rfl) (by simp) ?_
                refine AllReadyH.cons rfl (fun K hK => ?_) AllReadyH.nil
                clear hHeld
                go_simp
                refine (HCL.out _ hbB).mono ?_
                rintro e w5 ⟨A5, c5, rfl, hc5, hown5, hb5⟩
                have hbC := hbB.trans (hb5.mono hbB.size)
                try go_wp2_with fail
                refine hK.out _ _ (HSS.out _ hbC) (fun hHeld => ?_)
                clear hK K
                try simp only [Act.put, List.setIfInBounds_toArray, List.set_cons_zero, List.set_cons_succ]
                obtain ⟨bas, hbase⟩ : ∃ bas, bas = (wa.drew.alloc (.cells #[.int .i64 (x : Nat)] 3)).heap.size := ⟨_, rfl⟩
                have hown : w5.ownsRow bas 3 1 (.slice A5 p c5) p ((up path).map (Value.int .i64)) := by rw [hbase]; exact hown5
                have hIx : IntsA w5 w5.heap.size (some ⟨wa.heap.size, 0, none⟩) [(x : Int)] := (ints_cell wa.drew x).next hb5
                have hbas : bas ≤ w5.heap.size := by rw [hbase]; exact hb5.size
                have hbwr : wa.heap.size ≤ bas := by rw [hbase]; exact hbB.size
                clear hown5 hb5
                refine wpAnyH_ready (rs := [5]) (by kernel_rfl) (by simp) ?_
                refine AllReadyH.cons rfl (fun K hK => ?_) AllReadyH.nil
                clear hHeld
                refine wp_appInts _ _ 23 3 (.int .i64 0) 8 rfl Try.underlying23 info_int rfl bas (.slice A5 p c5) p _ (by simp [Act.eval]) ⟨wa.heap.size, 0, none⟩ 1 1 _ [(x : Int)] (by simp [Act.eval]) rfl hIx hown (by omega) (by omega) hbas ?_
                intro A6 c6 w6 hown6 hc6 hc6m hgr
                have hbD : Below wa.heap.size wa w6 := hbC.grown hgr hbC.size (fun q hq => by have := (own_lt hown q hq).1; omega)
                have hI6 : IntsA w6 w6.heap.size A6 (up (path ++ [x])) := ints_of_own (by simpa [up] using hown6)
                have HI6 := hide hI6
                have HB6 := hide hbD
                have HC6 := hide hc6
                clear hown6 hgr hI6 hbD hIx hown hbas hbC hc6
                refine hK.out _ _ (HSS.out _ HB6.out) (fun hHeld => ?_)
                clear hK K
                try simp only [Act.put, List.setIfInBounds_toArray, List.set_cons_zero, List.set_cons_succ]
                refine wpAnyH_ready (rs := [7]) (by kernel_rfl) (by simp) ?_
                refine AllReadyH.cons rfl (fun K hK => ?_) AllReadyH.nil
                clear hHeld
                refine wp_callv2 74 #[.pointer (some ⟨pc, 0, none⟩), .pointer (some ⟨pl, 0, none⟩), .pointer (some ⟨pm, 0, none⟩), .pointer (some ⟨pw, 0, none⟩), .pointer (some ⟨pg, 0, none⟩)] _ _ _ (.slice A6 (p + 1) c6) (.int .i64 (long : Nat)) _ rfl (by simp [Act.eval]) (by simp [Act.eval]) (by simp [Act.eval]) goes_grow ((HIH.out _ _ _ HB6.out HC6.out HI6.out).mono ?_)
                rintro e w7 ⟨u, rfl, hres, hb7⟩
                refine ⟨u, rfl, ?_⟩
                have HRES := hide hres
                have HB7 := hide (HB6.out.trans (hb7.mono HB6.out.size))
                clear hres hb7
                try simp only [List.getElem_toArray, List.getElem_cons_succ, List.getElem_cons_zero, put_lit, List.set_cons_zero, List.set_cons_succ]
                refine hK.out _ _ (HSS.out _ HB7.out) (fun hHeld => ?_)
                clear hK K
                try simp only [Act.put, List.setIfInBounds_toArray, List.set_cons_zero, List.set_cons_succ]
                refine wpAnyH_take (i := 8) (v := u) rfl (by kernel_rfl) (by kernel_rfl) (by kernel_rfl) (fun _ _ _ h => h) (Or.inl ⟨by rfl, ?_⟩) hHeld ?_
                · (intro w' hSw; obtain ⟨y1, y2⟩ := hSw; go_simp)
                try simp only [List.getElem_toArray, List.getElem_cons_succ, List.getElem_cons_zero, put_lit, List.set_cons_zero, List.set_cons_succ]
                refine wpAnyH_done (by kernel_rfl) ?_ _
                refine NoPanic.normal ?_
                go_wp2_with fail
                go_meet
                exact ⟨HRES.out, HB7.out⟩
            case rest =>
              obtain ⟨hres, hb1⟩ := hcut
              have HB1 := hide (HB9.out.trans (hb1.mono HB9.out.size))
              clear hb1
              refine ‹∀ (a : Act) (w : World), Code.wp Try.prog _ _ a w → _› _ _ ?_
              cases R with
              | none =>
                obtain rfl : u12 = .slice none 0 0 := hres
                have HNX : Hid (∀ x', x' < x + 1 → (if x' ∈ path ∨ M la x' < wd then none else pthF M n c wd d (path ++ [x'])) = none) := fun x' h => by
                  rcases (by omega : x' < x ∨ x' = x) with h1 | rfl
                  · exact hno.out x' h1
                  · exact HST.out
                clear HSS HCL HIH
                go_wp2
                go_roundw
                case rel => exact ⟨x + 1, by omega, by go_num, HNX, HB1.out⟩
                case measure => simp [intOf]; omega
              | some q =>
                obtain ⟨X9, c9, rfl, hc9, hI9⟩ := hres
                have HI9 := hide hI9
                have HFS := hide (findSome_at hlt hno.out HST.out)
                clear hI9 HSS HCL HIH
                go_wp2
                go_ret
                exact ⟨_, rfl, by rw [HFS.out]; exact ⟨X9, c9, rfl, hc9, HI9.out⟩, HB1.out⟩
      · obtain rfl : n = x := by omega
        have HNO := hide (findSome_no (fun i hi => hno.out i hi))
        clear hbel
        go_wp2
        go_ret
        exact ⟨_, rfl, by rw [HNO.out]; rfl, HBE.out⟩
end Go.Proofs.Ytejijddfepgnkaa
