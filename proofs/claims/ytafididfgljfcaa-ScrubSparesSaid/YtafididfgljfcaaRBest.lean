/-
  The reference's Best, walked.
-/
import Derived.Test.YtafididfgljfcaaRDis
namespace Go.Proofs.Ytafididfgljfcaa
open Go.RowKit
set_option linter.unusedVariables false
/-- 'wpQuiet' behind a structure: an elaborator that looks for a function type does not run the region. -/
structure WQ (P : Program) (ops : Array Oper) (C : World → Prop) (Q : Act → Prop) (l : List Oper) (a : Act) : Prop where
  out : wpQuiet P ops C Q l a
theorem WQ.step {P : Program} {ops : Array Oper} {C : World → Prop} {Q : Act → Prop} {a : Act} {o : Oper} {rest : List Oper}
    (h : ∀ K : Act → Prop, (∀ a, WQ P ops C Q rest a → K a) → if Region.wanted o (yielded ops a.tmps) then o.quiet P a C K else K (a.put o.dst undef)) : WQ P ops C Q (o :: rest) a :=
  ⟨wpQuiet_step fun K hK => h K fun a h => hK a h.out⟩
theorem WQ.nil {P : Program} {ops : Array Oper} {C : World → Prop} {Q : Act → Prop} {a : Act} (h : Q a) : WQ P ops C Q [] a := ⟨wpQuiet_nil h⟩
theorem quiet_load1 {P : Program} {o : Oper} {a : Act} {C : World → Prop} {w : World} (ty : TypeId) (x : Operand) (ho : o.op = .load ty x) (hag : ∀ w, (isAgg ty).run P w = .ok false w)
    (ad : Addr) (v : Value) (hx : a.eval x = .pointer (some ad)) (hc : w.cell? ad = some v) : o.quietAt P a C w v := by
  unfold Oper.quietAt execOp
  simp only [ho, hx, Instr.loadAt, Instr.sureAddr, Sem.run_bind, Sem.run_pure, Result.andThen_ok, loadVar, hag w]
  simp [hc]
  exact ⟨rfl, rfl⟩
theorem quiet_eqFb {o : Oper} {a : Act} {C : World → Prop} {w : World} (x y : Operand) (ho : o.op = .binOp .eql 39 x y 39) (f g : Fr) (b : Bool) (hb : decide (f = g) = b) (hx : a.eval x = f.v) (hy : a.eval y = g.v) : o.quietAt Try.prog a C w (.bool b) := by
  rw [← hb]; exact quiet_eqF x y ho f g hx hy
theorem best_snoc (l : List Sg) (f : Fr) (k : Nat) (s : Sg) (h : l[k]? = some s) : best (l.take (k + 1)) f = bstep f (best (l.take k) f) s := by
  have : l.take (k + 1) = l.take k ++ [s] := by rw [List.take_add_one, h]; rfl
  rw [this]; unfold best; rw [List.foldl_append]; rfl
theorem Sg.corrAt {w : World} {b o : Nat} {s : Sg} (h : w.rangeAt b o s.cs) : w.cell? ⟨b, o + 13, none⟩ = some (.int .i64 s.corr) := h 13 _ rfl
def RBRel (B : Nat) (w0 : World) (f : Fr) (wr : World) : Prop := Below B w0 wr ∧ wr.rangeAt B 0 f.cs ∧ B < wr.heap.size
set_option maxRecDepth 100000 in
set_option maxHeartbeats 1000000 in
theorem rbest_any (l : List Sg) (f : Fr) (n : Nat) (v : Value) (w : World) (hn : l.length = n) (hn2 : n ≤ 100) (hl : IsS 14 Sg.cs w v l) :
    Calls Try.prog 30 #[v, f.v] w fun e w' => e = .returned (.tuple #[.int .i64 ((best l f).getD 0), .bool (best l f).isSome]) ∧ Below w.heap.size w w' := by
  obtain ⟨aA, oA, cA, rfl, _, hA⟩ := hl
  rw [hn]
  have HA : Hid (RowsAt 14 Sg.cs w aA oA l) := hA
  have HN := Lib.hid hn
  clear hA hn
  unfold Fr.v
  go_enter Try.func30, Try.ntmps30
  go_wp2_with fail
  go_loopw [6, 7, 8] (fun v6 v7 i wr => ∃ k : Nat, k ≤ n ∧ i = .int .i64 k ∧ v6 = .int .i64 ((best (l.take k) f).getD 0) ∧ v7 = .bool (best (l.take k) f).isSome ∧ Hid (RBRel w.heap.size w f wr)) (fun _ _ i _ => n - (intOf i).toNat)
  case atStart => exact ⟨0, Nat.zero_le _, rfl, rfl, rfl, (Below.refl _ _).alloc (Nat.le_refl _) _, box_range w f.cs 39, by simp⟩
  case round =>
    obtain ⟨k, hk, rfl, rfl, rfl, HR⟩ := hrel
    obtain ⟨wo, rfl⟩ : ∃ wo : World, wo = wr := ⟨_, rfl⟩
    by_cases hlt : k < n
    · obtain ⟨s, hs⟩ : ∃ s, l[k]? = some s := ⟨_, List.getElem?_eq_getElem (by rw [HN.out]; exact hlt)⟩
      obtain ⟨bA, rfl, hbA, hrA⟩ := HA.out k s hs
      have HRA := Lib.hid (rangeAt_kept hrA HR.out.1 hbA)
      have HS := Lib.hid (best_snoc l f k s hs)
      obtain ⟨m, hm⟩ : ∃ m, best (l.take k) f = m := ⟨_, rfl⟩
      have HB := Lib.hid HR.out.1
      have HRB := Lib.hid HR.out.2.1
      have hbo : w.heap.size < wo.heap.size := HR.out.2.2
      have hlow : bA < wo.heap.size := by omega
      rw [hm] at HS ⊢
      clear hrA hs hm HR
      by_cases hfe : s.frame = f
      · have hfb : decide (s.frame = f) = true := decide_eq_true hfe
        cases m with
        | none =>
          have HS' : Hid (best (l.take (k + 1)) f = some s.corr) := by unfold Hid; rw [HS.out]; exact if_pos hfe
          clear HS hfe
          go_wp2_with fail
          refine wp_region_class (C := fun w' : World => Below wo.heap.size wo w') (by kernel_rfl) (by kernel_rfl) ((Below.refl _ _).drew) ?_
          refine WQ.out ?_
          repeat
            (refine WQ.step (fun K hK => ?_)
             first
             | (refine bl_skip (by rfl) ?_; go_simp; refine hK _ ?_; clear hK K)
             | (refine bl_want (by rfl) ?_
                apply Exists.intro
                apply And.intro
                next =>
                  intro w' hw'
                  first
                    | exact quiet_load 39 _ rfl bA _ s.frame.cs _ rfl (Sg.frameAt (rangeAt_kept HRA.out hw' hlow)) Try.underlying39 rfl Try.size39
                    | exact quiet_load 39 _ rfl w.heap.size 0 f.cs _ rfl (rangeAt_kept HRB.out hw' hbo) Try.underlying39 rfl Try.size39
                    | exact quiet_eqFb _ _ rfl s.frame f _ hfb rfl rfl
                    | exact quiet_load1 3 _ rfl Try.isAgg3 ⟨bA, oA + k * 14 + 13, none⟩ _ rfl (Sg.corrAt (rangeAt_kept HRA.out hw' hlow))
                    | (unfold Oper.quietAt; go_simp; exact rfl)
                go_simp
                refine hK _ ?_
                clear hK K))
          refine WQ.nil ?_
          intro w4 hb4
          have HB4 := Lib.hid (bt HB.out hb4)
          have HR4 := Lib.hid (rangeAt_kept HRB.out hb4 hbo)
          have hc4 := Sg.corrAt (rangeAt_kept HRA.out hb4 hlow)
          have hbo4 : w.heap.size < w4.heap.size := Nat.lt_of_lt_of_le hbo hb4.size
          clear hb4
          go_wp2_with fail
          go_roundw
          case rel => exact ⟨k + 1, by omega, by go_num, by rw [HS'.out]; first | done | rfl, by rw [HS'.out]; first | done | rfl, HB4.out, HR4.out, hbo4⟩
          case measure => simp [intOf] <;> omega
        | some b =>
          by_cases hcb : s.corr < b
          · have HS' : Hid (best (l.take (k + 1)) f = some s.corr) := by unfold Hid; rw [HS.out]; exact (if_pos hfe).trans (if_pos hcb)
            have hdb : decide (s.corr < b) = true := decide_eq_true hcb
            clear HS hfe
            go_wp2_with fail
            refine wp_region_class (C := fun w' : World => Below wo.heap.size wo w') (by kernel_rfl) (by kernel_rfl) ((Below.refl _ _).drew) ?_
            refine WQ.out ?_
            repeat
              (refine WQ.step (fun K hK => ?_)
               first
               | (refine bl_skip (by rfl) ?_; go_simp; refine hK _ ?_; clear hK K)
               | (refine bl_want (by rfl) ?_
                  apply Exists.intro
                  apply And.intro
                  next =>
                    intro w' hw'
                    first
                      | exact quiet_load 39 _ rfl bA _ s.frame.cs _ rfl (Sg.frameAt (rangeAt_kept HRA.out hw' hlow)) Try.underlying39 rfl Try.size39
                      | exact quiet_load 39 _ rfl w.heap.size 0 f.cs _ rfl (rangeAt_kept HRB.out hw' hbo) Try.underlying39 rfl Try.size39
                      | exact quiet_eqFb _ _ rfl s.frame f _ hfb rfl rfl
                      | exact quiet_load1 3 _ rfl Try.isAgg3 ⟨bA, oA + k * 14 + 13, none⟩ _ rfl (Sg.corrAt (rangeAt_kept HRA.out hw' hlow))
                      | (unfold Oper.quietAt; go_simp; exact rfl)
                  go_simp
                  refine hK _ ?_
                  clear hK K))
            refine WQ.nil ?_
            intro w4 hb4
            have HB4 := Lib.hid (bt HB.out hb4)
            have HR4 := Lib.hid (rangeAt_kept HRB.out hb4 hbo)
            have hc4 := Sg.corrAt (rangeAt_kept HRA.out hb4 hlow)
            have hbo4 : w.heap.size < w4.heap.size := Nat.lt_of_lt_of_le hbo hb4.size
            clear hb4
            go_wp2_with fail
            go_roundw
            case rel => exact ⟨k + 1, by omega, by go_num, by rw [HS'.out]; first | done | rfl, by rw [HS'.out]; first | done | rfl, HB4.out, HR4.out, hbo4⟩
            case measure => simp [intOf] <;> omega
          · have HS' : Hid (best (l.take (k + 1)) f = some b) := by unfold Hid; rw [HS.out]; exact (if_pos hfe).trans (if_neg hcb)
            have hdb : decide (s.corr < b) = false := decide_eq_false hcb
            clear HS hfe
            go_wp2_with fail
            refine wp_region_class (C := fun w' : World => Below wo.heap.size wo w') (by kernel_rfl) (by kernel_rfl) ((Below.refl _ _).drew) ?_
            refine WQ.out ?_
            repeat
              (refine WQ.step (fun K hK => ?_)
               first
               | (refine bl_skip (by rfl) ?_; go_simp; refine hK _ ?_; clear hK K)
               | (refine bl_want (by rfl) ?_
                  apply Exists.intro
                  apply And.intro
                  next =>
                    intro w' hw'
                    first
                      | exact quiet_load 39 _ rfl bA _ s.frame.cs _ rfl (Sg.frameAt (rangeAt_kept HRA.out hw' hlow)) Try.underlying39 rfl Try.size39
                      | exact quiet_load 39 _ rfl w.heap.size 0 f.cs _ rfl (rangeAt_kept HRB.out hw' hbo) Try.underlying39 rfl Try.size39
                      | exact quiet_eqFb _ _ rfl s.frame f _ hfb rfl rfl
                      | exact quiet_load1 3 _ rfl Try.isAgg3 ⟨bA, oA + k * 14 + 13, none⟩ _ rfl (Sg.corrAt (rangeAt_kept HRA.out hw' hlow))
                      | (unfold Oper.quietAt; go_simp; exact rfl)
                  go_simp
                  refine hK _ ?_
                  clear hK K))
            refine WQ.nil ?_
            intro w4 hb4
            have HB4 := Lib.hid (bt HB.out hb4)
            have HR4 := Lib.hid (rangeAt_kept HRB.out hb4 hbo)
            have hc4 := Sg.corrAt (rangeAt_kept HRA.out hb4 hlow)
            have hbo4 : w.heap.size < w4.heap.size := Nat.lt_of_lt_of_le hbo hb4.size
            clear hb4
            go_wp2_with fail
            go_roundw
            case rel => exact ⟨k + 1, by omega, by go_num, by rw [HS'.out]; first | done | rfl, by rw [HS'.out]; first | done | rfl, HB4.out, HR4.out, hbo4⟩
            case measure => simp [intOf] <;> omega
      · have hfb : decide (s.frame = f) = false := decide_eq_false hfe
        have HS' : Hid (best (l.take (k + 1)) f = m) := by unfold Hid; rw [HS.out]; exact if_neg hfe
        clear HS hfe
        go_wp2_with fail
        refine wp_region_class (C := fun w' : World => Below wo.heap.size wo w') (by kernel_rfl) (by kernel_rfl) ((Below.refl _ _).drew) ?_
        refine WQ.out ?_
        repeat
          (refine WQ.step (fun K hK => ?_)
           first
           | (refine bl_skip (by rfl) ?_; go_simp; refine hK _ ?_; clear hK K)
           | (refine bl_want (by rfl) ?_
              apply Exists.intro
              apply And.intro
              next =>
                intro w' hw'
                first
                  | exact quiet_load 39 _ rfl bA _ s.frame.cs _ rfl (Sg.frameAt (rangeAt_kept HRA.out hw' hlow)) Try.underlying39 rfl Try.size39
                  | exact quiet_load 39 _ rfl w.heap.size 0 f.cs _ rfl (rangeAt_kept HRB.out hw' hbo) Try.underlying39 rfl Try.size39
                  | exact quiet_eqFb _ _ rfl s.frame f _ hfb rfl rfl
                  | exact quiet_load1 3 _ rfl Try.isAgg3 ⟨bA, oA + k * 14 + 13, none⟩ _ rfl (Sg.corrAt (rangeAt_kept HRA.out hw' hlow))
                  | (unfold Oper.quietAt; go_simp; exact rfl)
              go_simp
              refine hK _ ?_
              clear hK K))
        refine WQ.nil ?_
        intro w4 hb4
        have HB4 := Lib.hid (bt HB.out hb4)
        have HR4 := Lib.hid (rangeAt_kept HRB.out hb4 hbo)
        have hc4 := Sg.corrAt (rangeAt_kept HRA.out hb4 hlow)
        have hbo4 : w.heap.size < w4.heap.size := Nat.lt_of_lt_of_le hbo hb4.size
        clear hb4
        go_wp2_with fail
        go_roundw
        case rel => exact ⟨k + 1, by omega, by go_num, by rw [HS'.out]; first | done | rfl, by rw [HS'.out]; first | done | rfl, HB4.out, HR4.out, hbo4⟩
        case measure => simp [intOf] <;> omega
    · have hnk : n ≤ k := by omega
      have HF : Hid (best (l.take k) f = best l f) := by unfold Hid; rw [List.take_of_length_le (by rw [HN.out]; exact hnk)]
      have HB : Hid (Below w.heap.size w wo) := HR.out.1
      rw [HF.out]
      go_wp2_with fail
      go_ret2
      exact ⟨rfl, HB.out⟩
end Go.Proofs.Ytafididfgljfcaa
