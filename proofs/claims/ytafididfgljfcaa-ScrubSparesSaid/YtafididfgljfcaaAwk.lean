/-
  The law's awake, walked.
-/
import Derived.Test.YtafididfgljfcaaFrm
import Derived.Test.YtafididfgljfcaaAss
import Derived.Test.YtafididfgljfcaaBlT
namespace Go.Proofs.Ytafididfgljfcaa
open Go.RowKit
set_option linter.unusedVariables false

theorem wf_small (n : Int) (h0 : 0 ≤ n) (h1 : n < 1000) : (Lit.int .i64 n).wf = true := by
  have e1 : IntKind.i64.min = -9223372036854775808 := by decide
  have e2 : IntKind.i64.max = 9223372036854775807 := by decide
  simp [Lit.wf, e1, e2]
  omega

theorem two_ones : ∀ v ∈ [Value.int .i64 2, Value.int .i64 1], v.oneCell' = true := by
  intro v hv
  simp only [List.mem_cons, List.not_mem_nil, or_false] at hv
  rcases hv with rfl | rfl <;> rfl
theorem fr00 (w : World) : Calls Try.prog 19 #[.int .i64 0, .int .i64 0, .agg #[.int .i64 2, .int .i64 1]] w fun e w' => e = .returned (lawFr 0 0 2 1).v ∧ Below w.heap.size w w' := frame_any 0 0 2 1 w
theorem fr10 (w : World) : Calls Try.prog 19 #[.int .i64 1, .int .i64 0, .agg #[.int .i64 2, .int .i64 1]] w fun e w' => e = .returned (lawFr 1 0 2 1).v ∧ Below w.heap.size w w' := frame_any 1 0 2 1 w
theorem fr20 (w : World) : Calls Try.prog 19 #[.int .i64 2, .int .i64 0, .agg #[.int .i64 2, .int .i64 1]] w fun e w' => e = .returned (lawFr 2 0 2 1).v ∧ Below w.heap.size w w' := frame_any 2 0 2 1 w
theorem fr21 (w : World) : Calls Try.prog 19 #[.int .i64 2, .int .i64 1, .agg #[.int .i64 2, .int .i64 1]] w fun e w' => e = .returned (lawFr 2 1 2 1).v ∧ Below w.heap.size w w' := frame_any 2 1 2 1 w
theorem quiet_load {P : Program} {o : Oper} {a : Act} {C : World → Prop} {w : World} (ty : TypeId) (x : Operand) (ho : o.op = .load ty x) (b off : Nat) (cs : List Value) (d : TypeDesc) (hx : a.eval x = .pointer (some ⟨b, off, none⟩)) (hc : w.rangeAt b off cs)
    (hu : P.underlying ty = some d) (hd : d.isRow = true) (hi : (P.info? ty).map (·.size) = some cs.length) : o.quietAt P a C w (.agg cs.toArray) := by
  unfold Oper.quietAt execOp
  simp only [ho, hx, Instr.loadAt, Instr.sureAddr, Sem.run_bind, Sem.run_pure, Result.andThen_ok, run_loadVar_mid w b off ty cs d hc hu hd hi]
  exact ⟨rfl, rfl⟩
theorem quiet_build {P : Program} {o : Oper} {a : Act} {C : World → Prop} {w : World} (t : TypeId) (parts : Array (Nat × Operand)) (ho : o.op = .build t parts) (cells : Array Value) (vs : List (Nat × Value)) (hv : parts.toList.map (fun p => (p.1, a.eval p.2)) = vs) (h : P.built t vs = some cells) : o.quietAt P a C w (.agg cells) := by
  have hp' : (parts.map fun (i, x) => (i, a.eval x)).toList = vs := by rw [Array.toList_map]; exact hv
  unfold Oper.quietAt execOp
  simp only [ho, Sem.run_bind, run_build w t _ cells (by rw [hp']; exact h), Result.andThen_ok]
  exact ⟨rfl, rfl⟩
def aF : List Fr := [lawFr 0 0 2 1, lawFr 1 0 2 1, lawFr 2 0 2 1, lawFr 2 1 2 1]
def aS : List Sg := [⟨0, 0, lawFr 0 0 2 1, 0, 0, 0⟩, ⟨0, 0, lawFr 1 0 2 1, 0, 0, 0⟩, ⟨0, 0, lawFr 2 0 2 1, 0, 0, 3⟩, ⟨0, 0, lawFr 2 1 2 1, 0, 0, 0⟩]
theorem bS0 : Try.prog.built 43 [(2, (lawFr 0 0 2 1).v)] = some (Sg.cs ⟨0, 0, lawFr 0 0 2 1, 0, 0, 0⟩).toArray := by kernel_rfl
theorem bS1 : Try.prog.built 43 [(2, (lawFr 1 0 2 1).v)] = some (Sg.cs ⟨0, 0, lawFr 1 0 2 1, 0, 0, 0⟩).toArray := by kernel_rfl
theorem bS2 : Try.prog.built 43 [(2, (lawFr 2 0 2 1).v), (3, .agg #[iv 0, iv 0, iv 3])] = some (Sg.cs ⟨0, 0, lawFr 2 0 2 1, 0, 0, 3⟩).toArray := by kernel_rfl
theorem bS3 : Try.prog.built 43 [(2, (lawFr 2 1 2 1).v)] = some (Sg.cs ⟨0, 0, lawFr 2 1 2 1, 0, 0, 0⟩).toArray := by kernel_rfl
theorem bQ : Try.prog.built 41 [(2, iv 3)] = some #[iv 0, iv 0, iv 3] := by kernel_rfl
theorem alloc_isS {α : Type} {cs : α → List Value} {n : Nat} (hn : ∀ x, (cs x).length = n) (w : World) (l : List α) (m c : Nat) (e : TypeId) (hm : l.length = m) (hmx : m ≤ maxLen) : IsS n cs (w.alloc (.cells (l.flatMap cs).toArray e)) (.slice (some ⟨w.heap.size, 0, none⟩) m c) l := by
  subst hm
  refine ⟨_, 0, c, rfl, hmx, fun i x hx => ⟨_, rfl, by simp, fun j v hv => ?_⟩⟩
  have hj : j < n := by rw [← hn x]; exact (List.getElem?_eq_some_iff.1 hv).1
  rw [Nat.zero_add]
  refine box_cell w _ e _ v ?_
  rw [flat_get cs n hn l i j x hx hj]; exact hv
theorem lawFr_ok (r i : UInt8) (d s : Int) (hd : (Lit.int .i64 d).wf = true) (hs : (Lit.int .i64 s).wf = true) : (lawFr r i d s).Ok := by
  have hr : r.toNat < 256 := r.toNat_lt
  have hi : i.toNat < 256 := i.toNat_lt
  refine ⟨rfl, ?_, rfl, ?_, rfl, hd, hs, rfl, ?_⟩
  · exact wf_small _ (by show 0 ≤ ((r.toNat : Nat) : Int); omega) (by show ((r.toNat : Nat) : Int) < 1000; omega)
  · exact wf_small _ (by show 0 ≤ ((i.toNat : Nat) : Int); omega) (by show ((i.toNat : Nat) : Int) < 1000; omega)
  · show 2 ≤ maxLen
    unfold maxLen; omega
theorem aF_ok : ∀ f ∈ aF, f.Ok := by
  intro f hf
  simp only [aF, List.mem_cons, List.not_mem_nil, or_false] at hf
  rcases hf with rfl | rfl | rfl | rfl <;> exact lawFr_ok _ _ _ _ rfl rfl
theorem aS_ok : ∀ s ∈ aS, s.frame.Ok ∧ 0 ≤ s.corr ∧ s.corr ≤ 52 := by
  intro s hs
  simp only [aS, List.mem_cons, List.not_mem_nil, or_false] at hs
  rcases hs with rfl | rfl | rfl | rfl <;> exact ⟨lawFr_ok _ _ _ _ rfl rfl, by decide, by decide⟩
def aH : List He := [⟨0, 1, 0, 0, 0⟩, ⟨1, 1, 0, 0, 0⟩, ⟨2, 2, 0, 3, 3⟩]
theorem aH_eq : assessL aS aF = aH := by
  have e1 : assessM (countsL aS) (distL aF) = [(0, ⟨0, 1, 0, 0, 0⟩), (1, ⟨1, 1, 0, 0, 0⟩), (2, ⟨2, 2, 0, 3, 3⟩)] := by decide +kernel
  unfold assessL
  rw [e1]
  have e2 : lostB (([(0, ⟨0, 1, 0, 0, 0⟩), (1, ⟨1, 1, 0, 0, 0⟩), (2, ⟨2, 2, 0, 3, 3⟩)] : List (Int × He)).map (·.1)) = [0, 1, 2] := lost_id [0, 1, 2] (by decide)
  rw [e2]; rfl
theorem aD2 : dueL aH 2 = [2] := by decide
theorem aD1 : dueL aH 1 = [] := by decide
theorem aH_ok : ∀ h ∈ aH, 0 ≤ h.worst ∧ h.worst ≤ 52 := by decide
theorem cellsH {w : World} {b o : Nat} (h : w.rangeAt b (o + 2 * 5) (He.cs ⟨2, 2, 0, 3, 3⟩)) :
    w.cell? ⟨b, o + 10, none⟩ = some (.int .i64 2) ∧ w.cell? ⟨b, o + 11, none⟩ = some (.int .i64 2) ∧ w.cell? ⟨b, o + 12, none⟩ = some (.int .i64 0) ∧ w.cell? ⟨b, o + 13, none⟩ = some (.int .i64 3) ∧ w.cell? ⟨b, o + 14, none⟩ = some (.int .i64 3) :=
  ⟨h 0 _ rfl, h 1 _ rfl, h 2 _ rfl, h 3 _ rfl, h 4 _ rfl⟩
theorem aF_at {w3 : World} {b : Nat} (h : IsS 9 Fr.cs w3 (.slice (some ⟨b, 0, none⟩) 4 4) aF) : w3.rangeAt b 0 (lawFr 0 0 2 1).cs ∧ w3.rangeAt b 9 (lawFr 1 0 2 1).cs ∧ w3.rangeAt b 18 (lawFr 2 0 2 1).cs ∧ w3.rangeAt b 27 (lawFr 2 1 2 1).cs := by
  obtain ⟨a, off, cap, e, _, hr⟩ := h
  simp only [Value.slice.injEq] at e
  obtain ⟨rfl, _, _⟩ := e
  have key : ∀ i x, aF[i]? = some x → w3.rangeAt b (i * 9) (Fr.cs x) := by
    intro i x hx
    obtain ⟨b', e1, _, e3⟩ := hr i x hx
    cases e1
    rwa [Nat.zero_add] at e3
  exact ⟨key 0 _ rfl, key 1 _ rfl, key 2 _ rfl, key 3 _ rfl⟩
set_option maxRecDepth 100000 in
set_option maxHeartbeats 1000000 in
theorem awake_any (w : World) : Calls Try.prog 11 #[] w fun e w' => e = .returned (.bool true) ∧ Below w.heap.size w w' := by
  go_enter Try.func11, Try.ntmps11
  go_wp2_with first
    | refine wpList_store_b rfl 36 _ _ rfl w _ [.int .i64 2, .int .i64 1] w.heap.size rfl rfl rfl rfl Try.size36 rfl two_ones ?_
  have hc0 := fun w' (h : Below (w.alloc (.cells #[.int .i64 2, .int .i64 1] 36)).heap.size (w.alloc (.cells #[.int .i64 2, .int .i64 1] 36)) w') => (h.cell (p := ⟨w.heap.size, 0, none⟩) (by simp)).trans (box_cell w [.int .i64 2, .int .i64 1] 36 0 _ rfl)
  have hc1 := fun w' (h : Below (w.alloc (.cells #[.int .i64 2, .int .i64 1] 36)).heap.size (w.alloc (.cells #[.int .i64 2, .int .i64 1] 36)) w') => (h.cell (p := ⟨w.heap.size, 1, none⟩) (by simp)).trans (box_cell w [.int .i64 2, .int .i64 1] 36 1 _ rfl)
  have hb1 : Below w.heap.size w (w.alloc (.cells #[.int .i64 2, .int .i64 1] 36)) := (Below.refl _ _).alloc (Nat.le_refl _) _
  change (Code.region _ _ _).wp _ _ _ (w.alloc (.cells #[.int .i64 2, .int .i64 1] 36))
  generalize (w.alloc (.cells #[.int .i64 2, .int .i64 1] 36)) = w1 at *
  have HC0 := Lib.hid hc0
  have HC1 := Lib.hid hc1
  have HB1 := Lib.hid hb1
  clear hc0 hc1 hb1
  refine wp_region_class_tail 8 (C := fun w' : World => Below w1.heap.size w1 w') (by kernel_rfl) (by kernel_rfl) ((Below.refl _ _).drew) ?_
  simp only [List.take_succ_cons, List.take_zero, List.drop_succ_cons, List.drop_zero]
  repeat
    (refine wpQuiet_step (fun K hK => ?_)
     first
     | (refine bl_skip (by rfl) ?_; go_simp; refine hK _ ?_; clear hK K)
     | (refine bl_want (by rfl) ?_
        apply Exists.intro
        apply And.intro
        next =>
          intro w' hw'
          have q0 := HC0.out w' hw'
          have q1 := HC1.out w' hw'
          unfold Oper.quietAt
          go_simp
          first | exact rfl | (with_reducible refine (fr00 w').mono ?_; intro e w'' h; exact ⟨h.1, bt hw' h.2⟩) | (with_reducible refine (fr10 w').mono ?_; intro e w'' h; exact ⟨h.1, bt hw' h.2⟩) | (with_reducible refine (fr20 w').mono ?_; intro e w'' h; exact ⟨h.1, bt hw' h.2⟩) | (with_reducible refine (fr21 w').mono ?_; intro e w'' h; exact ⟨h.1, bt hw' h.2⟩)
        go_simp
        refine hK _ ?_
        clear hK K))
  refine wpQuiet_nil ?_
  intro w2 hb2
  have HB2 := Lib.hid (bt HB1.out hb2)
  clear HC0 HC1 HB1 hb2
  go_wp2_with first
    | refine wpList_sliceS rfl 23 39 4 _ rfl Try.underlying23 _ 9 80 Try.infoF (by omega) (by omega) Fr.cs Fr.len aF rfl (by omega) (by omega) rfl ?_
  have hf3 : IsS 9 Fr.cs (w2.alloc (.cells (aF.flatMap Fr.cs).toArray 39)) (.slice (some ⟨w2.heap.size, 0, none⟩) 4 4) aF := alloc_isS Fr.len w2 aF 4 4 _ rfl (by unfold maxLen; omega)
  have hb3 : Below w.heap.size w (w2.alloc (.cells (aF.flatMap Fr.cs).toArray 39)) := HB2.out.alloc HB2.out.size _
  change (Code.region _ _ _).wp _ _ _ (w2.alloc (.cells (aF.flatMap Fr.cs).toArray 39))
  generalize (w2.alloc (.cells (aF.flatMap Fr.cs).toArray 39)) = w3 at *
  have HF3 := Lib.hid hf3
  have HB3 := Lib.hid hb3
  clear hf3 hb3 HB2
  refine wp_region_class_tail 17 (C := fun w' : World => Below w3.heap.size w3 w') (by kernel_rfl) (by kernel_rfl) ((Below.refl _ _).drew) ?_
  simp only [List.take_succ_cons, List.take_zero, List.drop_succ_cons, List.drop_zero]
  repeat
    (refine wpQuiet_step (fun K hK => ?_)
     first
     | (refine bl_skip (by rfl) ?_; go_simp; refine hK _ ?_; clear hK K)
     | (refine bl_want (by rfl) ?_
        apply Exists.intro
        apply And.intro
        next =>
          intro w' hw'
          first
            | exact quiet_load 39 _ rfl w2.heap.size 0 (lawFr 0 0 2 1).cs _ rfl (aF_at (HF3.out.kept hw')).1 Try.underlying39 rfl Try.size39
            | exact quiet_load 39 _ rfl w2.heap.size 9 (lawFr 1 0 2 1).cs _ rfl (aF_at (HF3.out.kept hw')).2.1 Try.underlying39 rfl Try.size39
            | exact quiet_load 39 _ rfl w2.heap.size 18 (lawFr 2 0 2 1).cs _ rfl (aF_at (HF3.out.kept hw')).2.2.1 Try.underlying39 rfl Try.size39
            | exact quiet_load 39 _ rfl w2.heap.size 27 (lawFr 2 1 2 1).cs _ rfl (aF_at (HF3.out.kept hw')).2.2.2 Try.underlying39 rfl Try.size39
            | exact quiet_build 43 _ rfl _ [(2, (lawFr 0 0 2 1).v)] rfl bS0
            | exact quiet_build 43 _ rfl _ [(2, (lawFr 1 0 2 1).v)] rfl bS1
            | exact quiet_build 43 _ rfl _ [(2, (lawFr 2 0 2 1).v), (3, .agg #[iv 0, iv 0, iv 3])] rfl bS2
            | exact quiet_build 43 _ rfl _ [(2, (lawFr 2 1 2 1).v)] rfl bS3
            | exact quiet_build 41 _ rfl _ [(2, iv 3)] rfl bQ
            | (unfold Oper.quietAt; go_simp; exact rfl)
        go_simp
        refine hK _ ?_
        clear hK K))
  refine wpQuiet_nil ?_
  intro w4 hb4
  have HB4 := Lib.hid (bt HB3.out hb4)
  have HF4 := Lib.hid (HF3.out.kept hb4)
  clear HB3 HF3 hb4
  go_wp2_with first
    | refine wpList_sliceS rfl 22 43 4 _ rfl Try.underlying22 _ 14 120 Try.infoS (by omega) (by omega) Sg.cs Sg.len aS rfl (by omega) (by omega) rfl ?_
  have hs5 : IsS 14 Sg.cs (w4.alloc (.cells (aS.flatMap Sg.cs).toArray 43)) (.slice (some ⟨w4.heap.size, 0, none⟩) 4 4) aS := alloc_isS Sg.len w4 aS 4 4 _ rfl (by unfold maxLen; omega)
  have hb5 : Below w.heap.size w (w4.alloc (.cells (aS.flatMap Sg.cs).toArray 43)) := HB4.out.alloc HB4.out.size _
  have hf5 : IsS 9 Fr.cs (w4.alloc (.cells (aS.flatMap Sg.cs).toArray 43)) (.slice (some ⟨w2.heap.size, 0, none⟩) 4 4) aF := HF4.out.kept ((Below.refl _ _).alloc (Nat.le_refl _) _)
  have hsz5 : w4.heap.size < (w4.alloc (.cells (aS.flatMap Sg.cs).toArray 43)).heap.size := by simp
  have hq0 : (w4.alloc (.cells (aS.flatMap Sg.cs).toArray 43)).cell? ⟨w4.heap.size, 39, none⟩ = some (.int .i64 0) := box_cell w4 _ _ 39 _ rfl
  have hq1 : (w4.alloc (.cells (aS.flatMap Sg.cs).toArray 43)).cell? ⟨w4.heap.size, 40, none⟩ = some (.int .i64 0) := box_cell w4 _ _ 40 _ rfl
  have hq2 : (w4.alloc (.cells (aS.flatMap Sg.cs).toArray 43)).cell? ⟨w4.heap.size, 41, none⟩ = some (.int .i64 3) := box_cell w4 _ _ 41 _ rfl
  generalize (w4.alloc (.cells (aS.flatMap Sg.cs).toArray 43)) = w5 at *
  have HS5 := Lib.hid hs5
  have HB5 := Lib.hid hb5
  have HF5 := Lib.hid hf5
  clear hs5 hb5 hf5 HB4 HF4
  refine (assess_any aS aF 4 4 _ _ w5 rfl (by omega) rfl (by omega) HS5.out HF5.out aS_ok aF_ok).mono ?_
  rintro e w6 ⟨v6, rfl, hs6, hb6⟩
  rw [aH_eq] at hs6
  have HS6 := Lib.hid hs6
  have HB6 := Lib.hid (bt HB5.out hb6)
  have hq06 := (hb6.cell (p := ⟨w4.heap.size, 39, none⟩) hsz5).trans hq0
  have hq16 := (hb6.cell (p := ⟨w4.heap.size, 40, none⟩) hsz5).trans hq1
  have hq26 := (hb6.cell (p := ⟨w4.heap.size, 41, none⟩) hsz5).trans hq2
  have hsz6 : w4.heap.size < w6.heap.size := Nat.lt_of_lt_of_le hsz5 hb6.size
  obtain ⟨a6, o6, c6, rfl, _, hr6⟩ := hs6
  obtain ⟨b6, rfl, hlt6, hra6⟩ := hr6 2 _ rfl
  have HRA6 := Lib.hid hra6
  clear hr6 hra6 hb6 hq0 hq1 hq2 HF5 HS5 HB5
  rw [show aH.length = 3 from rfl] at *
  go_wp2_with fail
  refine (due_any aH 3 2 _ w6 rfl (by omega) HS6.out aH_ok).mono ?_
  rintro e w7 ⟨v7, rfl, hs7, hb7⟩
  rw [aD2] at hs7
  have HB7 := Lib.hid (bt HB6.out hb7)
  have HS7 := Lib.hid (HS6.out.kept hb7)
  have hq07 := (hb7.cell (p := ⟨w4.heap.size, 39, none⟩) hsz6).trans hq06
  have hq17 := (hb7.cell (p := ⟨w4.heap.size, 40, none⟩) hsz6).trans hq16
  have hq27 := (hb7.cell (p := ⟨w4.heap.size, 41, none⟩) hsz6).trans hq26
  obtain ⟨h70, h71, h72, h73, h74⟩ := cellsH (rangeAt_kept HRA6.out hb7 hlt6)
  obtain ⟨a7, c7, rfl, hf7⟩ := hs7.form2
  obtain ⟨g7, rfl, hg7, hd7⟩ := hf7 0 (by decide)
  have HD7 := Lib.hid (show w7.cell? ⟨g7, 0, none⟩ = some (.int .i64 2) from hd7)
  rw [show [(2 : Int)].length = 1 from rfl]
  have HSi7 := Lib.hid hs7
  clear hf7 hd7 hs7 hb7 hq06 hq16 hq26 HRA6 HS6 HB6
  go_wp2_with fail
  refine (margin_any 0 0 3 w7 (by omega) (by omega)).mono ?_
  rintro e w8 ⟨rfl, hb8⟩
  rw [show max (0 : Int) (4 - 3) = 1 by decide]
  have HB8 := Lib.hid (bt HB7.out hb8)
  have HS8 := Lib.hid (HS7.out.kept hb8)
  have hd8 := (hb8.cell (p := ⟨g7, 0, none⟩) hg7).trans HD7.out
  clear hb8 h70 h71 h72 h73 h74 hq07 hq17 hq27 HS7 HB7
  go_wp2_with fail
  refine (due_any aH 3 1 _ w8 rfl (by omega) HS8.out aH_ok).mono ?_
  rintro e w9 ⟨v9, rfl, hs9, hb9⟩
  rw [aD1] at hs9
  obtain ⟨a9, c9, rfl, _⟩ := hs9.form2
  rw [show ([] : List Int).length = 0 from rfl]
  have HB9 := Lib.hid (bt HB8.out hb9)
  clear hs9 hb9 hd8
  go_wp2_with fail
  go_ret
  exact ⟨rfl, HB9.out⟩
end Go.Proofs.Ytafididfgljfcaa
