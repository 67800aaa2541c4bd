/-
  dates: order; the reference's IsOrder.
-/
import Derived.Test.YtiadineakhcclaaDFirst
namespace Go.Proofs.Ytiadineakhcclaa
open Go.RowKit Go.Deep
set_option linter.unusedVariables false
set_option linter.unusedSimpArgs false

set_option maxHeartbeats 400000 in
theorem jorder_any (J : Option Addr) (jc : Nat) (A : Option Addr) (n c B m : Nat) (l : List Int) (w : World) (hn : l.length = n) (hlen : n ≤ 9223372036854775807) (hm : m ≤ 60) (hA : IntsA w B A l) :
    Calls Try.prog 61 #[.slice J m jc, .slice A n c] w fun e w' => e = .returned (.bool (ordB l m)) ∧ w = w' := by
  subst hn
  generalize hid : ordB l m = r
  have HI := hide hid; clear hid
  go_enter Try.func61, Try.ntmps61
  go_wp2
  go_loop [5, 10] (fun s i => ∃ k M : Nat, k ≤ l.length ∧ i = .int .i64 k ∧ s = .int .i64 M ∧ Hid (MaskOf M (l.take k) ∧ (∀ x ∈ l.take k, 0 ≤ x ∧ x < (m : Int)))) (fun _ i => l.length - (intOf i).toNat)
  case atStart => exact ⟨0, 0, Nat.zero_le _, rfl, rfl, maskOf_nil, fun x hx => by simp at hx⟩
  case round =>
    obtain ⟨k, M, hk, rfl, rfl, HM⟩ := hrel
    have hM62 : M < 2 ^ 60 := Nat.lt_of_lt_of_le (maskOf_lt HM.out.1 HM.out.2) (Nat.pow_le_pow_right (by decide) hm)
    by_cases hlt : k < l.length
    · obtain ⟨b, o, x, rfl, hb, hc, hx⟩ := hA.at_ hlt
      have hmem : Hid (x ∈ l) := by
        rw [← hx.out, List.getD_eq_getElem?_getD, List.getElem?_eq_getElem hlt]; exact List.getElem_mem hlt
      have hbad : ¬ (0 ≤ x ∧ x < (m : Int)) → Hid (r = false) := fun hne => by
        show r = false
        rw [← HI.out]
        cases h : ordB l m with
        | false => rfl
        | true => exact absurd ((ordB_iff.1 h).2.1 x hmem.out) hne
      by_cases h0 : x < 0
      · have hr := hbad (by omega)
        clear hbad
        go_wp2
        go_ret
        exact ⟨by rw [hr.out]; rfl, rfl⟩
      · by_cases h1 : (m : Int) ≤ x
        · have hr := hbad (by omega)
          clear hbad
          go_wp2
          go_ret
          exact ⟨by rw [hr.out]; rfl, rfl⟩
        · obtain ⟨y, rfl⟩ := Int.eq_ofNat_of_zero_le (show 0 ≤ x by omega)
          have hy : y < m := by omega
          clear hbad
          go_wp2
          go_round
          case rel =>
            refine ⟨k + 1, M ||| 2 ^ y, by omega, by go_num, ?_, ?_⟩
            · have h2 : (2 : Nat) ^ y < 2 ^ 60 := Nat.pow_lt_pow_right (by decide) (by omega)
              rw [shl_one y (by omega), bor_nat M _ (by omega) (by omega)]
            · show MaskOf _ _ ∧ _
              rw [take_snoc_int l k hlt, hx.out]
              refine ⟨maskOf_snoc HM.out.1 y, fun z hz => ?_⟩
              simp only [List.mem_append, List.mem_singleton] at hz
              rcases hz with hz | rfl
              · exact HM.out.2 z hz
              · omega
          case measure => simp [intOf]; omega
    · have ht : l.take k = l := List.take_of_length_le (by omega)
      have HM' : Hid (MaskOf M l ∧ (∀ x ∈ l, 0 ≤ x ∧ x < (m : Int))) := by have := HM.out; rw [ht] at this; exact this
      clear ht HM
      by_cases hlm : l.length = m
      · have hB : ((l.length : Int) == (m : Int)) = true := by simp [hlm]
        have HL := hide hlm; clear hlm
        go_wp2
        go_ret
        refine ⟨?_, rfl⟩
        rw [← HI.out]
        have e1 : ordB l m = ((M : Int) == wrap64 (wrap64 (2 ^ m) - 1)) := by
          rw [full_nat m (by omega), Bool.eq_iff_iff, ordB_iff]
          have hf := maskOf_full HM'.out.1 HM'.out.2
          simp only [beq_iff_eq]
          constructor
          · rintro ⟨_, _, h3⟩; rw [hf.2 h3]
          · intro h; exact ⟨HL.out, HM'.out.2, hf.1 (by omega)⟩
        rw [e1]
        rfl
      · have hB : ((l.length : Int) == (m : Int)) = false := by simp; omega
        have HL : Hid (¬ l.length = m) := hlm
        clear hlm
        go_wp2
        go_ret
        refine ⟨?_, rfl⟩
        have e1 : ordB l m = false := by
          cases h : ordB l m with
          | false => rfl
          | true => exact absurd (ordB_iff.1 h).1 HL.out
        rw [← HI.out, e1]
        rfl

theorem nodup_full {l : List Int} {m : Nat} (hd : l.Nodup) (hl : l.length = m) (hb : ∀ x ∈ l, 0 ≤ x ∧ x < (m : Int)) : ∀ x : Nat, x < m → (x : Int) ∈ l := by
  -- the places of a list without repetition: as many as numbers below m
  induction m generalizing l with
  | zero => intro x hx; omega
  | succ m ih =>
    intro x hx
    by_cases hm : (m : Int) ∈ l
    · by_cases e : x = m
      · subst e; exact hm
      · have h1 : (l.erase (m : Int)).Nodup := hd.erase _
        have h2 : (l.erase (m : Int)).length = m := by rw [List.length_erase_of_mem hm, hl]; omega
        have h3 := ih h1 h2 (fun y hy => by
          have h4 := hb y (List.mem_of_mem_erase hy)
          have h5 : y ≠ (m : Int) := fun e => by rw [e] at hy; exact hd.not_mem_erase hy
          omega) x (by omega)
        exact List.mem_of_mem_erase h3
    · exfalso
      -- then all lie below m: too many
      cases l with
      | nil => simp at hl
      | cons a t =>
        have ha := hb a (List.mem_cons_self ..)
        have hd2 : t.Nodup := (List.nodup_cons.1 hd).2
        have hl2 : t.length = m := by simpa using hl
        have h3 := ih hd2 hl2 (fun y hy => by
          have h4 := hb y (List.mem_cons_of_mem _ hy)
          have h5 : y ≠ (m : Int) := fun e => hm (e ▸ List.mem_cons_of_mem _ hy)
          omega)
        have h6 : a ≠ (m : Int) := fun e => hm (e ▸ List.mem_cons_self ..)
        have := h3 a.toNat (by omega)
        rw [show ((a.toNat : Nat) : Int) = a by omega] at this
        exact (List.nodup_cons.1 hd).1 this
set_option maxRecDepth 100000 in
set_option maxHeartbeats 1600000 in
theorem dIsOrder_any (A : Option Addr) (n c m : Nat) (l : List Int) (w : World) (hn : l.length = n) (hlen : n ≤ 9223372036854775807) (hm : m ≤ 8) (hA : IntsA w w.heap.size A l) :
    Calls Try.prog 29 #[.slice A n c, .int .i64 m] w fun e w' => e = .returned (.bool (ordB l m)) ∧ Below w.heap.size w w' := by
  subst hn
  generalize hid : ordB l m = r
  have HI := hide hid; clear hid
  have HA := hide hA; clear hA
  obtain ⟨w1, hw1⟩ : ∃ w1, w1 = w.alloc (.cells #[.bool false, .bool false, .bool false, .bool false, .bool false, .bool false, .bool false, .bool false] 97) := ⟨_, rfl⟩
  have HR1 : Hid (w1.rowIs w.heap.size 97 8 (fun a => .bool (decide ((a : Int) ∈ l.take 0)))) := by
    subst hw1
    refine (World.rowIs_alloc w _ _ (fun _ => .bool false) (fun i hi => ?_)).congr fun a ha => by simp
    have : i < 8 := hi
    match i, this with
    | 0, _ | 1, _ | 2, _ | 3, _ | 4, _ | 5, _ | 6, _ | 7, _ => rfl
  have HB1 : Hid (Below w.heap.size w w1) := by subst hw1; exact (Below.refl _ _).alloc (Nat.le_refl _) _
  go_enter Try.func29, Try.ntmps29
  go_wp2
  rw [← hw1]
  clear hw1
  go_loopw [10] (fun i wr => ∃ k : Nat, k ≤ l.length ∧ i = .int .i64 k ∧ Hid (wr.rowIs w.heap.size 97 8 (fun a => .bool (decide ((a : Int) ∈ l.take k)))) ∧ Hid ((∀ x ∈ l.take k, 0 ≤ x ∧ x < (m : Int)) ∧ (l.take k).Nodup) ∧ Below w.heap.size w wr) (fun i _ => l.length - (intOf i).toNat)
  case atStart => exact ⟨0, Nat.zero_le _, rfl, HR1, ⟨fun x hx => by simp at hx, by simp⟩, HB1.out⟩
  case round =>
    obtain ⟨k, hk, rfl, HR, HM, hb⟩ := hrel
    by_cases hlt : k < l.length
    · obtain ⟨b, o, x, rfl, hbb, hc, hx⟩ := (HA.out.below hb).at_ hlt
      have hmem : Hid (x ∈ l) := by
        rw [← hx.out, List.getD_eq_getElem?_getD, List.getElem?_eq_getElem hlt]; exact List.getElem_mem hlt
      have hbad : ¬ (0 ≤ x ∧ x < (m : Int)) → Hid (r = false) := fun hne => by
        show r = false
        rw [← HI.out]
        cases h : ordB l m with
        | false => rfl
        | true => exact absurd ((ordB_iff.1 h).2.1 x hmem.out) hne
      by_cases h0 : x < 0
      · have hr := hbad (by omega)
        clear hbad
        go_wp2
        go_ret
        exact ⟨by rw [hr.out]; rfl, hb⟩
      · by_cases h1 : (m : Int) ≤ x
        · have hr := hbad (by omega)
          clear hbad
          go_wp2
          go_ret
          exact ⟨by rw [hr.out]; rfl, hb⟩
        · obtain ⟨y, rfl⟩ := Int.eq_ofNat_of_zero_le (show 0 ≤ x by omega)
          have hy : y < m := by omega
          have hy8 : (y : Int) < 8 := by omega
          have hcr := HR.out.cell (i := y) (by omega)
          have hfz := HR.out.frozen y
          have hs3 : w.heap.size < wr.heap.size := HR.out.lt
          have HB := hide hb
          clear hbad hb
          by_cases hin : (y : Int) ∈ l.take k
          · rw [decide_eq_true hin] at hcr
            have hr : Hid (r = false) := by
              show r = false
              rw [← HI.out]
              cases h : ordB l m with
              | false => rfl
              | true =>
                exfalso
                have ho := ordB_iff.1 h
                obtain ⟨j, hj, e⟩ := List.getElem_of_mem hin
                rw [List.length_take] at hj
                rw [List.getElem_take] at e
                have e2 : l[k] = (y : Int) := by rw [getD_cons_of (d := 0) hlt]; exact hx.out
                -- a list of m different numbers below m that names one twice is too long
                have hO := ord_of h
                have hinj := hO.2.inj j k (by rw [← ho.1]; omega) (by rw [← ho.1]; omega)
                have g1 : ∀ i, (hi : i < l.length) → ((toN l).getD i 0 : Int) = l[i] := fun i hi => by
                  rw [getD_cons_of (d := 0) hi, ← up_getD, hO.1]
                have h3 := g1 j (by omega)
                have h4 := g1 k hlt
                have := hinj (by omega)
                omega
            clear hin
            go_wp2
            go_ret
            exact ⟨by rw [hr.out]; rfl, HB.out⟩
          · rw [decide_eq_false hin] at hcr
            have HNI := hide hin
            clear hin
            go_wp2
            go_roundw
            case rel =>
              refine ⟨k + 1, by omega, by go_num, hide ((HR.out.set y _).congr fun a ha => ?_), ?_, HB.out.setCell (Nat.le_refl _) _⟩
              · show (if a = y then Value.bool true else Value.bool (decide ((a : Int) ∈ l.take k))) = Value.bool (decide ((a : Int) ∈ l.take (k + 1)))
                rw [take_snoc_int l k hlt, hx.out]
                by_cases e : a = y
                · subst e; simp
                · have e' : ¬ (a : Int) = (y : Int) := by omega
                  rw [if_neg e]; simp [e']
              · show _ ∧ _
                rw [take_snoc_int l k hlt, hx.out]
                refine ⟨fun z hz => ?_, ?_⟩
                · simp only [List.mem_append, List.mem_singleton] at hz
                  rcases hz with hz | rfl
                  · exact HM.out.1 z hz
                  · omega
                · rw [List.nodup_append]
                  refine ⟨HM.out.2, by simp, fun a ha b hb2 => ?_⟩
                  simp only [List.mem_singleton] at hb2
                  subst hb2
                  exact fun e => HNI.out (e ▸ ha)
            case measure => simp [intOf]; omega
    · have ht : l.take k = l := List.take_of_length_le (by omega)
      have HM' : Hid ((∀ x ∈ l, 0 ≤ x ∧ x < (m : Int)) ∧ l.Nodup) := by have := HM.out; rw [ht] at this; exact this
      clear ht HM
      by_cases hlm : l.length = m
      · have hB : ((l.length : Int) == (m : Int)) = true := by simp [hlm]
        have e1 : Hid (r = true) := by
          show r = true
          rw [← HI.out, ordB_iff]
          refine ⟨hlm, HM'.out.1, fun x hx => ?_⟩
          exact nodup_full HM'.out.2 hlm HM'.out.1 x hx
        clear hlm
        go_wp2
        go_ret
        exact ⟨by rw [e1.out]; rfl, hb⟩
      · have hB : ((l.length : Int) == (m : Int)) = false := by simp; omega
        have e1 : Hid (r = false) := by
          show r = false
          rw [← HI.out]
          cases h : ordB l m with
          | false => rfl
          | true => exact absurd (ordB_iff.1 h).1 hlm
        clear hlm
        go_wp2
        go_ret
        exact ⟨by rw [e1.out]; rfl, hb⟩
end Go.Proofs.Ytiadineakhcclaa
