/-
  The walk of the law ScrubReserve.
-/
import Derived.Test.YtafididfgljfcaaScResP
namespace Go.Proofs.Ytafididfgljfcaa
open Go.RowKit
set_option linter.unusedVariables false
theorem sight_snoc (l : List Fr) (k : Nat) (f : Fr) (h : l[k]? = some f) : (sight l).take (k + 1) = (sight l).take k ++ [⟨0, (k : Int), f, 0, 0, 0⟩] := by
  rw [List.take_add_one, sight_get l k f h]; rfl
theorem wpList_build_of {P : Program} {ops : Array Oper} {rest : List Oper} {o : Oper} {a : Act} {w : World} {Q : Exit → Act → World → Prop} (hg : o.guard = none) (t : TypeId) (parts : Array (Nat × Operand)) (ho : o.op = .build t parts) (cells : Array Value) (vs : List (Nat × Value)) (hv : parts.toList.map (fun p => (p.1, a.eval p.2)) = vs) (hb : P.built t vs = some cells)
    (h : wpList P ops Q rest (a.put o.dst (.agg cells)) w) : wpList P ops Q (o :: rest) a w := by
  have hp' : (parts.map fun (i, x) => (i, a.eval x)).toList = vs := by rw [Array.toList_map]; exact hv
  refine wpList_build hg t parts ho (by rw [hp', hb]; rfl) ?_
  rw [hp', hb]; exact h
theorem owns_empty (w : World) (e : TypeId) (size : Nat) : (w.alloc (.cells #[] e)).ownsRow w.heap.size e size (.slice (some ⟨w.heap.size, 0, none⟩) 0 0) 0 [] :=
  ⟨by simp, Or.inr ⟨w.heap.size, 0, #[], rfl, Nat.le_refl _, heap_alloc_last w _, Nat.le_refl _, Nat.zero_le _, by simp, by simp⟩⟩
theorem assessL_len (l : List Sg) (fs : List Fr) : (assessL l fs).length ≤ fs.length := by
  unfold assessL
  rw [List.length_map]
  refine Nat.le_trans (lost_len _) ?_
  rw [List.length_map]
  exact Nat.le_trans (assessM_len _ _) (distL_len fs)
set_option maxRecDepth 100000 in
set_option maxHeartbeats 4000000 in
theorem scrubReserve.walk (w : World) (v : Value) (l : List Fr) (hl : IsS 9 Fr.cs w v l) (hok : ∀ f ∈ l, f.Ok) (x : Int) (wx : (Lit.int .i64 x).wf = true) :
    Calls Try.prog 5 #[v, .int .i64 x] w fun e w' => e = .returned (.bool true) ∧ Below w.heap.size w w' := by
  have HL := Lib.hid hl
  obtain ⟨n, hnn⟩ : ∃ n, l.length = n := ⟨_, rfl⟩
  obtain ⟨aA, oA, cA, rfl, hmx, hA⟩ := hl
  unfold maxLen at hmx
  rw [hnn] at hmx ⊢
  rw [hnn] at HL
  have HN := Lib.hid hnn
  have HA : Hid (RowsAt 9 Fr.cs w aA oA l) := hA
  have HOK := Lib.hid hok
  clear hA hnn wx hok
  by_cases hbig : 40 < n ∨ 4 < x
  · go_enter Try.func5, Try.ntmps5
    by_cases h1 : 40 < n
    · go_wp2_with fail
      refine (awake_any _).mono ?_
      rintro e w2 ⟨rfl, hb2⟩
      have HB2 := Lib.hid hb2
      clear hb2
      go_wp2_with fail
      go_ret
      exact ⟨rfl, HB2.out⟩
    · have h2 : 4 < x := by omega
      go_wp2_with fail
      refine (awake_any _).mono ?_
      rintro e w2 ⟨rfl, hb2⟩
      have HB2 := Lib.hid hb2
      clear hb2
      go_wp2_with fail
      go_ret
      exact ⟨rfl, HB2.out⟩
  · have h1 : ¬ 40 < n := by omega
    have h2 : ¬ 4 < x := by omega
    clear hbig
    go_enter Try.func5, Try.ntmps5
    have hn40 : n ≤ 40 := by omega
    go_wp2_with fail
    go_loopw [5, 20] (fun v5 i wr => ∃ k : Nat, k ≤ n ∧ i = .int .i64 k ∧ Hid (wr.ownsRow w.heap.size 43 14 v5 k (((sight l).take k).flatMap Sg.cs) ∧ Below w.heap.size w wr)) (fun _ i _ => n - (intOf i).toNat)
    case atStart => exact ⟨0, Nat.zero_le _, rfl, owns_empty _ _ _, (Below.refl _ _).alloc (Nat.le_refl _) _⟩
    case round =>
      obtain ⟨k, hk, rfl, HR⟩ := hrel
      obtain ⟨wo, rfl⟩ : ∃ wo : World, wo = wr := ⟨_, rfl⟩
      by_cases hlt : k < n
      · obtain ⟨s, hs⟩ : ∃ s, l[k]? = some s := ⟨_, List.getElem?_eq_getElem (by rw [HN.out]; exact hlt)⟩
        obtain ⟨bA, rfl, hbA, hrA⟩ := HA.out k s hs
        have HRA := Lib.hid (rangeAt_kept hrA HR.out.2 hbA)
        have HS := Lib.hid (sight_snoc l k s hs)
        have hlow : w.heap.size ≤ wo.heap.size := HR.out.2.size
        have HTl : Hid (((sight l).take k).length = k) := by unfold Hid; rw [List.length_take, sight_len, HN.out]; omega
        clear hrA hs
        go_wp2_with first
          | refine wpList_load_mid rfl 39 _ rfl bA _ rfl s.cs _ HRA.out Try.underlying39 rfl Try.size39 ?_
          | refine wpList_build_of rfl 43 _ rfl _ [(1, iv (k : Int)), (2, s.v)] rfl (built_at k s) ?_
          | refine wpList_slice1 rfl 22 43 _ rfl Try.underlying22 _ 14 120 Try.infoS (by omega) (by omega) Sg.cs Sg.len (⟨0, (k : Int), s, 0, 0, 0⟩ : Sg) rfl ?_
          | (at_builtin; refine wpList_append_S rfl _ _ 22 43 rfl Try.underlying22 _ 14 120 Try.infoS rfl (by omega) (by omega) Sg.cs Sg.len Sg.ones w.heap.size _ k ((sight l).take k) rfl (HR.out.1.alloc _) HTl.out (by simp; omega) wo.heap.size 1 (⟨0, (k : Int), s, 0, 0, 0⟩ : Sg) rfl (box_range wo _ 43) (by omega) ?_; intro v4 w4 ho4 hg4)
        go_roundw
        case rel =>
          refine ⟨k + 1, by omega, by go_num, ?_, belowS_grown (HR.out.2.alloc hlow _) (HR.out.1.alloc _) hg4 (by simp; omega) (Nat.le_refl _)⟩
          rw [HS.out]; exact ho4
        case measure => simp [intOf] <;> omega
      · have hnk : n ≤ k := by omega
        have HSi : Hid (IsS 14 Sg.cs wo u5 (sight l)) := by
          unfold Hid
          have := HR.out.1
          rw [List.take_of_length_le (by rw [sight_len, HN.out]; exact hnk)] at this
          exact isS_of_owns Sg.len this (by rw [sight_len, HN.out]; omega)
        have HB := Lib.hid HR.out.2
        clear HR
        go_wp2_with fail
        refine (assess_any (sight l) l n n _ _ wo (by rw [sight_len, HN.out]) (by omega) HN.out (by omega) HSi.out (HL.out.kept HB.out) (fun s hs => ⟨HOK.out _ (sight_mem l s hs).2, by rw [(sight_mem l s hs).1]; decide, by rw [(sight_mem l s hs).1]; decide⟩) HOK.out).mono ?_
        rintro e w4 ⟨v4, rfl, hs4, hb4⟩
        have HB4 := Lib.hid (bt HB.out hb4)
        have HCl := Lib.hid (assess_clean l)
        have hLL := assessL_len (sight l) l
        obtain ⟨R, hR⟩ : ∃ R, assessL (sight l) l = R := ⟨_, rfl⟩
        rw [hR] at hs4 HCl hLL
        rw [HN.out] at hLL
        have HS4 := Lib.hid hs4
        obtain ⟨a4, o4, c4, rfl, _, hr4⟩ := hs4
        obtain ⟨nR, hnR⟩ : ∃ m, R.length = m := ⟨_, rfl⟩
        rw [hnR] at hLL ⊢
        rw [hnR] at HS4
        have HR4 := Lib.hid hr4
        have HNR := Lib.hid hnR
        clear hr4 hnR hb4 hR HB HSi
        go_wp2_with fail
        go_loopw [38] (fun i wr => ∃ k : Nat, k ≤ nR ∧ i = .int .i64 k ∧ w4 = wr) (fun i _ => nR - (intOf i).toNat)
        case atStart => exact ⟨0, Nat.zero_le _, rfl, rfl⟩
        case round =>
          obtain ⟨k2, hk2, rfl, rfl⟩ := hrel
          by_cases hlt2 : k2 < nR
          · obtain ⟨h, hh⟩ : ∃ h, R[k2]? = some h := ⟨_, List.getElem?_eq_getElem (by rw [HNR.out]; exact hlt2)⟩
            obtain ⟨g1, g2, g3, g4⟩ := HCl.out h (List.mem_of_getElem? hh)
            obtain ⟨b4, rfl, hb4, hr4⟩ := HR4.out k2 h hh
            have hc1 : w4.cell? ⟨b4, o4 + k2 * 5 + 1, none⟩ = some (.int .i64 h.found) := hr4 1 _ rfl
            have hc2 : w4.cell? ⟨b4, o4 + k2 * 5 + 2, none⟩ = some (.int .i64 0) := by have := hr4 2 _ rfl; rw [g2] at this; exact this
            have hc3 : w4.cell? ⟨b4, o4 + k2 * 5 + 3, none⟩ = some (.int .i64 0) := by have := hr4 3 _ rfl; rw [g3] at this; exact this
            have hc4 : w4.cell? ⟨b4, o4 + k2 * 5 + 4, none⟩ = some (.int .i64 0) := by have := hr4 4 _ rfl; rw [g4] at this; exact this
            clear hr4 hh g2 g3 g4
            go_wp2_with fail
            go_roundw
            case rel => exact ⟨k2 + 1, by omega, by go_num, trivial⟩
            case measure => simp [intOf] <;> omega
          · have hnk2 : nR ≤ k2 := by omega
            have HW : Hid (∀ h ∈ R, 0 ≤ h.worst ∧ h.worst ≤ 52) := by
              intro h hh
              rw [(HCl.out h hh).worst]; exact ⟨by omega, by omega⟩
            go_wp2_with fail
            refine (due_any R nR x _ w4 HNR.out (by omega) HS4.out HW.out).mono ?_
            rintro e w5 ⟨v5, rfl, hs5, hb5⟩
            rw [due_clean_none R HCl.out x (by omega)] at hs5
            obtain ⟨a5, c5, rfl, _⟩ := hs5.form2
            rw [show ([] : List Int).length = 0 from rfl]
            have HB5 := Lib.hid (bt HB4.out hb5)
            have HS5 := Lib.hid (HS4.out.kept hb5)
            clear hs5 hb5
            go_wp2_with fail
            refine (due_any R nR 5 _ w5 HNR.out (by omega) HS5.out HW.out).mono ?_
            rintro e w6 ⟨v6, rfl, hs6, hb6⟩
            obtain ⟨a6, c6, rfl, _⟩ := hs6.form2
            rw [due_clean_all R HCl.out, HNR.out]
            have HB6 := Lib.hid (bt HB5.out hb6)
            clear hs6 hb6
            go_wp2_with fail
            refine (awake_any _).mono ?_
            rintro e w7 ⟨rfl, hb7⟩
            have HB7 := Lib.hid (bt HB6.out hb7)
            clear hb7
            go_wp2_with fail
            go_ret
            exact ⟨rfl, HB7.out⟩
end Go.Proofs.Ytafididfgljfcaa
