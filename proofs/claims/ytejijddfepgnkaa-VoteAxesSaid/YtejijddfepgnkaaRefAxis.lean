/-
  The reference's axis and Axis.
-/
import Derived.Test.YtejijddfepgnkaaRefIsAxis
import Derived.Test.YtejijddfepgnkaaRefSome
import Derived.Test.YtejijddfepgnkaaAxis
namespace Go.Proofs.Ytejijddfepgnkaa
open Go.RowKit
set_option linter.unusedVariables false
set_option linter.unusedSimpArgs false

/-- The j-th order of the names. -/
def ordAt (nm : List Nat) (j : Nat) : List Nat := ((someN nm.length nm.length).getD j []).map fun i => nm.getD i 0
noncomputable def refAxF (V : List (List Nat)) (nm : List Nat) : Option (List Nat) := ((someN nm.length nm.length).map fun p => p.map fun i => nm.getD i 0).find? (isAx V)
theorem find_idx {α : Type} {L : List α} {p : α → Bool} {q : Nat} {d x : α} (hq : q < L.length) (hx : L.getD q d = x) (hp : p x = true) (hno : ∀ i, i < q → p (L.getD i d) = false) : L.find? p = some x := by
  induction L generalizing q with
  | nil => simp at hq
  | cons y L ih =>
    rw [List.find?_cons]
    cases q with
    | zero =>
      have : y = x := by simpa using hx
      subst this
      rw [hp]
    | succ q =>
      have h0 := hno 0 (by omega)
      have h0' : p y = false := by simpa using h0
      rw [h0']
      exact ih (q := q) (by simpa using hq) (by simpa using hx) fun i hi => by
        have := hno (i + 1) (by omega)
        simpa using this
theorem ordAt_eq (nm : List Nat) {j : Nat} (hj : j < (someN nm.length nm.length).length) : ((someN nm.length nm.length).map fun p => p.map fun i => nm.getD i 0).getD j [] = ordAt nm j := by
  simp only [ordAt, List.getD_eq_getElem?_getD, List.getElem?_map, List.getElem?_eq_getElem hj]; rfl
theorem refAxF_some {V : List (List Nat)} {nm : List Nat} {j : Nat} (hj : j < (someN nm.length nm.length).length) (h : isAx V (ordAt nm j) = true) (hno : ∀ i, i < j → isAx V (ordAt nm i) = false) : refAxF V nm = some (ordAt nm j) :=
  find_idx (q := j) (d := []) (by rw [List.length_map]; exact hj) (ordAt_eq nm hj) h fun i hi => by rw [ordAt_eq nm (by omega)]; exact hno i hi
theorem refAxF_none {V : List (List Nat)} {nm : List Nat} (hno : ∀ i, i < (someN nm.length nm.length).length → isAx V (ordAt nm i) = false) : refAxF V nm = none := by
  rw [refAxF, List.find?_eq_none]
  intro o ho
  obtain ⟨p, hp, rfl⟩ := List.mem_map.1 ho
  obtain ⟨i, hi, rfl⟩ := List.getElem_of_mem hp
  have := hno i hi
  rw [ordAt, List.getD_eq_getElem?_getD, List.getElem?_eq_getElem hi] at this
  simpa using this

set_option maxRecDepth 100000 in
set_option maxHeartbeats 3200000 in
theorem refAxis_any (A : Option Addr) (nv c : Nat) (V : List (List Nat)) (X : Option Addr) (kk cx : Nat) (nm : List Nat) (w : World) (hV : V.length = nv) (hv60 : nv ≤ 60) (hrow : ∀ l ∈ V, l.length ≤ 60) (hA : RowsA w w.heap.size A (upp V)) (hnl : nm.length = kk) (hk1 : 1 ≤ kk) (hk5 : kk ≤ 5) (hX : IntsA w w.heap.size X (up nm)) :
    Calls Try.prog 80 #[.slice A nv c, .slice X kk cx] w (AxPost (refAxF V nm) kk w) := by
  have HSO := hide (fun (w' : World) => some_any kk w' hk5 kk hk5)
  have HIA := hide (fun (w' : World) (hw' : Below w.heap.size w w') (Y : Option Addr) (cy : Nat) (o : List Nat) (ho : o.length = kk) (hY : IntsA w' w'.heap.size Y (up o)) => isAxis_any A nv c V Y kk cy w'.heap.size o w' hV hv60 hrow (hA.next hw') ho (by omega) hY)
  obtain ⟨p, hp⟩ : ∃ p, (someN kk kk).length = p := ⟨_, rfl⟩
  have hp' : (someN nm.length nm.length).length = p := by rw [hnl]; exact hp
  have hp9 : p ≤ 3125 := by
    have h1 := someN_len kk hk5 kk
    have h2 : 5 ^ kk ≤ 5 ^ 5 := Nat.pow_le_pow_right (by decide) hk5
    omega
  have HP := hide hp
  have HS := hide (fun j (hj : j < p) (h : isAx V (ordAt nm j) = true) (hno : ∀ i, i < j → isAx V (ordAt nm i) = false) => refAxF_some (by rw [hp']; exact hj) h hno)
  have HN := hide (fun (hno : ∀ i, i < p → isAx V (ordAt nm i) = false) => refAxF_none (V := V) (nm := nm) fun i hi => hno i (by rw [← hp']; exact hi))
  have HOA : Hid (∀ j, ordAt nm j = ((someN kk kk).getD j []).map fun i => nm.getD i 0) := fun j => by rw [ordAt, hnl]
  have HX := hide hX
  have HNL := hide hnl
  clear hV hrow hA hnl hX hp hp'
  go_enter Try.func80, Try.ntmps80
  go_wp2_with (go_at_call 67; refine (HSO.out _).mono ?_; rintro e w1 ⟨X1, c1, rfl, hc, hR, hz, hb1⟩; rw [HP.out] at hc ⊢; have HR := hide hR; have HB1 := hide hb1; clear hR hz hb1)
  have hs1 := HB1.out.size
  go_loopw [16] (fun i wr => ∃ j : Nat, j ≤ p ∧ i = .int .i64 j ∧ Hid (∀ i, i < j → isAx V (ordAt nm i) = false) ∧ Below w1.heap.size w1 wr) (fun i _ => p - (intOf i).toNat)
  case atStart => exact ⟨0, Nat.zero_le _, rfl, fun i h => absurd h (by omega), Below.refl _ _⟩
  case round =>
    obtain ⟨j, hj, rfl, HNO, hbel⟩ := hrel
    have HBE := hide hbel
    by_cases hlt : j < p
    · obtain ⟨b, o, A', n', c9, rfl, hb, hcw, hx, hle, hI⟩ := (HR.out.below hbel).at_ (k := j) (by rw [upp_length, HP.out]; exact hlt)
      rw [upp_getD] at hx hI
      obtain ⟨l, hl⟩ : ∃ l, (someN kk kk).getD j [] = l := ⟨_, rfl⟩
      have hlm : l ∈ someN kk kk := by rw [← hl]; exact getD_mem (by rw [HP.out]; exact hlt)
      have hlk : l.length = kk := someN_row kk kk l hlm
      have hll : ∀ x ∈ l, x < kk := fun x hx => ((mem_ordsN.1 (by rw [← someN_ords]; exact hlm)).mem x).1 hx
      rw [hl] at hx hI
      obtain rfl : kk = n' := by have := hx.out; rw [up_length, hlk] at this; exact this
      have hoa := HOA.out j
      rw [hl] at hoa
      have HOJ := hide hoa
      have HI := hide hI
      have HLK := hide hlk
      have HLL := hide hll
      clear hx hI hl hlm hlk hll hoa hbel
      go_wp2_with fail
      obtain ⟨wq, rfl⟩ : ∃ wq : World, wq = wr := ⟨_, rfl⟩
      have hwq := HBE.out.size
      go_loopw [7, 22] (fun v i wr => ∃ (s c' : Nat) (H : Option Addr), s ≤ kk ∧ i = .int .i64 s ∧ v = .slice H s c' ∧ s ≤ c' ∧ Hid (wr.ownsRow wq.heap.size 3 1 (.slice H s c') s ((up ((l.take s).map fun i => nm.getD i 0)).map (Value.int .i64))) ∧ Below wq.heap.size wq wr) (fun _ i _ => kk - (intOf i).toNat)
      case atStart => exact ⟨0, 0, none, Nat.zero_le _, rfl, rfl, Nat.le_refl _, hide (by simpa [up] using World.ownsRow_nil _ _ _ _), Below.refl _ _⟩
      case round =>
        obtain ⟨s, c', H, hs, rfl, rfl, hsc, HOW, hbel⟩ := hrel
        have HB2 := hide hbel
        by_cases hlts : s < kk
        · obtain ⟨b3, o3, g', rfl, hb3, hc3, hg⟩ := (HI.out.below (hbel.mono (by omega))).at_ (k := s) (by rw [up_length, HLK.out]; exact hlts)
          have hg' : g' = ((l.getD s 0 : Nat) : Int) := by rw [← up_getD]; exact hg.out.symm
          subst hg'
          have hgk := HLL.out (l.getD s 0) (getD_mem (by rw [HLK.out]; exact hlts))
          have hst : (l.take (s + 1)).map (fun i => nm.getD i 0) = (l.take s).map (fun i => nm.getD i 0) ++ [nm.getD (l.getD s 0) 0] := by
            rw [List.take_succ_eq_append_getElem (by rw [HLK.out]; exact hlts), List.map_append, List.getD_eq_getElem?_getD (l := l), List.getElem?_eq_getElem (by rw [HLK.out]; exact hlts)]; rfl
          obtain ⟨gg, hgg⟩ : ∃ gg, l.getD s 0 = gg := ⟨_, rfl⟩
          rw [hgg] at hc3 hgk hst
          have hbw := HB1.out.trans ((HBE.out.trans (hbel.mono hwq)).mono hs1)
          obtain ⟨b4, o4, y', rfl, hb4, hc4, hy⟩ := (HX.out.below hbw).at_ (k := gg) (by rw [up_length, HNL.out]; exact hgk)
          have hy' : y' = ((nm.getD gg 0 : Nat) : Int) := by rw [← up_getD]; exact hy.out.symm
          subst hy'
          obtain ⟨y, hyy⟩ : ∃ y, nm.getD gg 0 = y := ⟨_, rfl⟩
          rw [hyy] at hc4 hst
          have HST := hide hst
          have hgl : (gg : Int) < (kk : Int) := by omega
          clear hg hy hgg hyy hst
          go_wp2_with (at_builtin; refine wpList_app1 (w0 := wr) _ _ 23 3 (.int .i64 0) 8 rfl rfl Try.underlying23 info_int rfl wq.heap.size (.slice H s c') s _ (.int .i64 (y : Nat)) rfl rfl rfl ⟨_, rfl⟩ HOW.out rfl (by omega) (by omega) (by have := hbel.size; omega) ?_; intro g2 cg w3 hown1 hd1 hd2 hg1 hgl2 hgrow; have HOW1 := hide hown1; have HG := hide hgrow; clear hown1 hgrow)
          go_roundw
          case rel =>
            refine ⟨s + 1, cg, some ⟨g2, 0, none⟩, by omega, by go_num, rfl, hd1, hide ?_, HB2.out.grown HG.out HB2.out.size (fun q hq => (own_lt HOW.out q hq).1)⟩
            rw [HST.out]
            have e9 : (up ((l.take s).map (fun i => nm.getD i 0) ++ [y])).map (Value.int .i64) = (up ((l.take s).map fun i => nm.getD i 0)).map (Value.int .i64) ++ [Value.int .i64 (y : Int)] := by simp [up]
            rw [e9]; exact HOW1.out
          case measure => simp [intOf] <;> omega
        · obtain rfl : kk = s := by omega
          have hft : l.take kk = l := List.take_of_length_le (by rw [HLK.out]; exact Nat.le_refl _)
          rw [hft, ← HOJ.out] at HOW
          have hbw := HB1.out.trans ((HBE.out.trans (hbel.mono hwq)).mono hs1)
          have hII := ints_of_own HOW.out
          have HII := hide hII
          have HCA := hide (HIA.out wr hbw H c' (ordAt nm j) (by rw [HOJ.out, List.length_map, HLK.out]) hII)
          have HBW := hide hbw
          clear hft hII hbw
          cases hax : isAx V (ordAt nm j) with
          | true =>
            rw [hax] at HCA
            have HFS := hide (HS.out j hlt hax HNO.out)
            clear hax
            go_wp2_with (go_at_call 103; refine (HCA.out).mono ?_; rintro e w' ⟨rfl, rfl⟩)
            go_ret
            rw [HFS.out]
            exact ⟨H, kk, c', rfl, ⟨rfl, hsc, by rw [HOJ.out, List.length_map, HLK.out], HII.out⟩, HBW.out⟩
          | false =>
            rw [hax] at HCA
            have HAX := hide hax
            clear hax
            go_wp2_with (go_at_call 103; refine (HCA.out).mono ?_; rintro e w' ⟨rfl, rfl⟩)
            go_roundw
            case rel => exact ⟨j + 1, by omega, by go_num, fun i h => by rcases (by omega : i < j ∨ i = j) with h9 | rfl; exact HNO.out i h9; exact HAX.out, HBE.out.trans (HB2.out.mono hwq)⟩
            case measure => simp [intOf] <;> omega
    · obtain rfl : p = j := by omega
      have HFN := hide (HN.out HNO.out)
      go_wp2
      go_ret
      rw [HFN.out]
      exact ⟨none, 0, 0, rfl, ⟨rfl, rfl, rfl⟩, HB1.out.trans (HBE.out.mono hs1)⟩

def RAxisPost (r : Option (List Nat)) (n : Nat) (w : World) (e : Ending) (w' : World) : Prop :=
  (match r with | none => e = .returned (.tuple #[.slice none 0 0, .int .i64 4]) | some o => ∃ X cx, e = .returned (.tuple #[.slice X n cx, .int .i64 0]) ∧ n ≤ cx ∧ o.length = n ∧ IntsA w' w'.heap.size X (up o)) ∧ Below w.heap.size w w'
set_option maxRecDepth 100000 in
set_option maxHeartbeats 1600000 in
theorem refAxisTop_any (A : Option Addr) (v n c : Nat) (W : List (List Nat)) (w : World) (hW : BOk W v n) (hA : RowsA w w.heap.size A (upp W)) :
    Calls Try.prog 48 #[.slice A v c] w (RAxisPost (refAxF W (List.range n)) n w) := by
  have hn5 := hW.nle
  have hn1 := hW.npos
  have hv1 := hW.pos
  have hv9 := hW.le
  have HAL := hide (fun w' => refAll_any n w' (by omega))
  have HAX := hide (fun w' (hw' : Below w.heap.size w w') X cx (hX : IntsA w' w'.heap.size X (up (List.range n))) => refAxis_any A v c W X n cx (List.range n) w' hW.len (by omega) (fun l hl => by
    obtain ⟨i, hi, rfl⟩ := List.getElem_of_mem hl
    have := (hW.rows i (by rw [← hW.len]; exact hi)).len
    rw [List.getD_eq_getElem?_getD, List.getElem?_eq_getElem hi] at this
    have h9 : (W[i]).length = n := this
    omega) (hA.next hw') (by simp) hn1 hn5 hX)
  obtain ⟨b0, o0, A0, n0, c0, rfl, hb0, hc0, hx0, hle0, hI0⟩ := hA.at_ (k := 0) (by rw [upp_length, hW.len]; exact hv1)
  rw [upp_getD] at hx0
  obtain rfl : n = n0 := by have := hx0.out; rw [up_length, (hW.rows 0 hv1).len] at this; exact this
  rw [Nat.add_zero] at hc0
  have hi0 : (0 : Int) < (v : Int) := by omega
  have hvz : v ≠ 0 := by omega
  have hqe := fun (w : World) (a : Option Addr) (n c n' c' : Nat) => Lib.run_eql_slice_nil (P := Try.prog) w 23 _ a n c n' c' Try.underlying23
  clear hA hW hI0 hx0 hle0
  cases hax : refAxF W (List.range n) with
  | none =>
    rw [hax] at HAX
    clear hax
    go_enter Try.func48, Try.ntmps48
    go_wp2_with (first
      | (go_at_call 81; refine (HAL.out _).mono ?_; rintro e w1 ⟨H, c', rfl, hc', hI, hb1⟩; have HI := hide hI; have HB1 := hide hb1; clear hI hb1)
      | (go_at_call 80; refine (HAX.out w1 HB1.out H c' HI.out).mono ?_; rintro e w2 ⟨X9, m9, c9, rfl, ⟨rfl, rfl, rfl⟩, hb2⟩; have HB2 := hide hb2; clear hb2))
    go_ret2
    exact ⟨rfl, HB1.out.trans (HB2.out.mono HB1.out.size)⟩
  | some o =>
    rw [hax] at HAX
    clear hax
    go_enter Try.func48, Try.ntmps48
    go_wp2_with (first
      | (go_at_call 81; refine (HAL.out _).mono ?_; rintro e w1 ⟨H, c', rfl, hc', hI, hb1⟩; have HI := hide hI; have HB1 := hide hb1; clear hI hb1)
      | (go_at_call 80; refine (HAX.out w1 HB1.out H c' HI.out).mono ?_; rintro e w2 ⟨X9, m9, c9, rfl, ⟨rfl, hc9, hol, hI9⟩, hb2⟩; obtain ⟨b', o', x', rfl, h2, _⟩ := hI9.at_ (k := 0) (by rw [up_length, hol]; omega); have HB2 := hide hb2; have HI9 := hide hI9; have HOL := hide hol; clear hb2 hI9 h2 hol))
    go_ret2
    exact ⟨⟨_, c9, rfl, hc9, HOL.out, HI9.out⟩, HB1.out.trans (HB2.out.mono HB1.out.size)⟩
end Go.Proofs.Ytejijddfepgnkaa
