/-
  The reference's one, walked: the condition of a reel.
-/
import Derived.Test.YtafididfgljfcaaRBest
import Derived.Test.YtafididfgljfcaaRAssP
namespace Go.Proofs.Ytafididfgljfcaa
open Go.RowKit
set_option linter.unusedVariables false
section
variable {P : Program} {ops : Array Oper} {rest : List Oper} {o : Oper} {a : Act} {w : World} {Q : Exit → Act → World → Prop}
theorem below_setRow2 (w : World) (g : Nat) (cs : Array Value) : Below g w (w.setRow g cs) := ⟨rfl, rfl, rfl, by simp, fun k hk => setRow_other w g k cs (by omega)⟩
/-- A store of one field into a struct that lies in a block of its own. -/
theorem wpList_store_fld (hgd : o.guard = none) (ty : TypeId) (x y : Operand) (ho : o.op = .store ty x y) (hsz : (P.info? ty).map (·.size) = some 1)
    (g j : Nat) (cs : List Value) (t : TypeId) (v : Value) (cs' : List Value) (hh : w.heap[g]? = some (.cells cs.toArray t (0, 0))) (hx : a.eval x = .pointer (some ⟨g, j, none⟩)) (hy : a.eval y = v) (hv : v.cells = #[v]) (h1 : v.oneCell' = true) (hj : j < cs.length) (hcs : cs.set j v = cs')
    (h : ∀ w', Below g w w' → w'.heap[g]? = some (.cells cs'.toArray t (0, 0)) → w'.heap.size = w.heap.size → wpList P ops Q rest (a.put o.dst undef) w') : wpList P ops Q (o :: rest) a w := by
  subst hcs
  have hc : w.cell? ⟨g, j, none⟩ = some (cs[j]) := by
    simp only [World.cell?, hh]
    simp [List.getElem?_eq_getElem hj]
  have hf : w.frozen? ⟨g, j, none⟩ = false := by
    simp only [World.frozen?, hh]
    simp
  have e1 : w.setCell ⟨g, j, none⟩ v = w.setRow g (cs.set j v).toArray := by
    rw [setCell_eq_setRow _ _ _ cs.toArray t (0, 0) v hh]
    congr 1
    simp
  have hK0 := h (w.setRow g (cs.set j v).toArray) (below_setRow2 w g _) (setRow_heap w g _ _ t (0, 0) hh) (by simp)
  refine wpList_plain hgd fun _ hK => ?_
  unfold Oper.wp execOp
  cases hq : P.info? ty with
  | none => simp [hq] at hsz
  | some i =>
    have hs : i.size = 1 := by simpa [hq] using hsz
    have e0 : (⟨g, j, none⟩ : Addr).add 0 = ⟨g, j, none⟩ := Addr.add_mid _ _ 0
    simp only [ho, hx, hy, Instr.storeAt, Instr.sureAddr, Sem.run_bind, Sem.run_pure, Result.andThen_ok, storeVar, sizeOf, typeInfo, hv]
    simp [storeCells, e0, run_store P _ _ v _ h1, hc, hf, e1, hq, hs, Result.andThen]
    exact hK _ _ hK0
/-- A struct of a block of its own, read and written whole. -/
theorem range_of_heap {w : World} {g : Nat} {cs : List Value} {t : TypeId} {fr : Nat × Nat} (hh : w.heap[g]? = some (.cells cs.toArray t fr)) : w.rangeAt g 0 cs := fun j v hv => by
  rw [Nat.zero_add]
  simp only [World.cell?, hh]
  simpa using hv
theorem cell_of_heap {w : World} {g j : Nat} {cs : List Value} {t : TypeId} {fr : Nat × Nat} {v : Value} (hh : w.heap[g]? = some (.cells cs.toArray t fr)) (hv : cs[j]? = some v) : w.cell? ⟨g, j, none⟩ = some v := by
  have := range_of_heap hh j v hv
  rwa [Nat.zero_add] at this
theorem wpList_store_blk (hgd : o.guard = none) (ty : TypeId) (x y : Operand) (ho : o.op = .store ty x y)
    (g : Nat) (cells : List Value) (hx : a.eval x = .pointer (some ⟨g, 0, none⟩)) (hy : a.eval y = .agg cells.toArray)
    (t : TypeId) (old : List Value) (hg : w.heap[g]? = some (.cells old.toArray t (0, 0))) (hi : (P.info? ty).map (·.size) = some cells.length)
    (hold : old.length = cells.length) (h1 : ∀ v ∈ cells, v.oneCell' = true)
    (h : ∀ w', Below g w w' → w'.heap[g]? = some (.cells cells.toArray t (0, 0)) → w'.heap.size = w.heap.size → wpList P ops Q rest (a.put o.dst undef) w') : wpList P ops Q (o :: rest) a w :=
  wpList_store_row hgd ty x y ho g cells.toArray hx hy t old.toArray hg (by rw [hi, List.size_toArray]) (by rw [List.size_toArray, List.size_toArray]; exact hold) (all_oneCell_toArray h1)
    (h _ (below_setRow2 w g _) (setRow_heap w g _ _ t (0, 0) hg) (by simp))
end
theorem bH1 (r : Int) : Try.prog.built 31 [(0, .int .i64 r)] = some (He.cs ⟨r, 0, 0, 0, 0⟩).toArray := by kernel_rfl
theorem ostep_ok {l : List Sg} (hl : ∀ s ∈ l, 0 ≤ s.corr ∧ s.corr ≤ 52) {k : Nat} {r : Int} {h : He} (hk : HOk k h) (f : Fr) : HOk (k + 1) (ostep l r h f) := by
  obtain ⟨a1, a2, a3, a4, a5, a6, a7, a8⟩ := hk
  unfold ostep
  split
  · cases hb : best l f with
    | none => exact ⟨a1, by simp only; omega, by simp only; omega, by simp only; omega, a5, a6, a7, by simp only; omega⟩
    | some n =>
      obtain ⟨s, hs, _, rfl⟩ := best_mem l f n hb
      obtain ⟨h1, h2⟩ := hl s hs
      refine ⟨by simp only; omega, by simp only; omega, a3, by simp only; omega, ?_, ?_, by simp only; omega, by simp only; omega⟩
      · simp only; split <;> omega
      · simp only; split <;> omega
  · exact ⟨a1, by omega, a3, by omega, a5, a6, a7, by omega⟩
theorem oneL_ok {l : List Sg} (hl : ∀ s ∈ l, 0 ≤ s.corr ∧ s.corr ≤ 52) (fs : List Fr) (r : Int) : HOk fs.length (oneL l fs r) := by
  suffices H : ∀ (n : Nat) (fs : List Fr), fs.length = n → HOk n (oneL l fs r) from H _ fs rfl
  intro n
  induction n with
  | zero => intro fs h; rw [List.eq_nil_of_length_eq_zero h]; exact ⟨by simp [oneL], by simp [oneL], by simp [oneL], by simp [oneL], by simp [oneL], by simp [oneL], by simp [oneL], by simp [oneL]⟩
  | succ n ih =>
    intro fs h
    obtain ⟨s, hs⟩ : ∃ s, fs[n]? = some s := ⟨_, List.getElem?_eq_getElem (by omega)⟩
    have e1 := oneL_snoc l fs r n s hs
    rw [List.take_of_length_le (by omega)] at e1
    rw [e1]
    exact ostep_ok hl (ih (fs.take n) (by rw [List.length_take]; omega)) s
def ROne (B : Nat) (w0 : World) (h : He) (wr : World) : Prop :=
  wr.heap[B]? = some (.cells (He.cs ⟨0, 0, 0, 0, 0⟩).toArray 31 (0, 0)) ∧ wr.heap[B + 1]? = some (.cells h.cs.toArray 31 (0, 0)) ∧ Below B w0 wr ∧ B + 1 < wr.heap.size
theorem ROne.kept {B : Nat} {w0 wr w' : World} {h : He} (H : ROne B w0 h wr) (hb : Below wr.heap.size wr w') : ROne B w0 h w' :=
  ⟨(hb.block _ (by have := H.2.2.2; omega)).trans H.1, (hb.block _ H.2.2.2).trans H.2.1, H.2.2.1.trans (hb.mono (by have := H.2.2.2; omega)), Nat.lt_of_lt_of_le H.2.2.2 hb.size⟩
theorem ROne.turn {B : Nat} {w0 wr w' : World} {h h' : He} (H : ROne B w0 h wr) (hb : Below (B + 1) wr w') (hh : w'.heap[B + 1]? = some (.cells h'.cs.toArray 31 (0, 0))) : ROne B w0 h' w' :=
  ⟨(hb.block _ (by omega)).trans H.1, hh, H.2.2.1.trans (hb.mono (by omega)), Nat.lt_of_lt_of_le H.2.2.2 hb.size⟩
set_option maxRecDepth 100000 in
set_option maxHeartbeats 1000000 in
theorem rone_any (l : List Sg) (fs : List Fr) (r : Int) (nl nf : Nat) (v vf : Value) (w : World) (hnl : l.length = nl) (hnl2 : nl ≤ 100) (hnf : fs.length = nf) (hnf2 : nf ≤ 100) (hl : IsS 14 Sg.cs w v l) (hf : IsS 9 Fr.cs w vf fs)
    (hok : ∀ s ∈ l, 0 ≤ s.corr ∧ s.corr ≤ 52) :
    Calls Try.prog 25 #[v, vf, .int .i64 r] w fun e w' => e = .returned (oneL l fs r).v ∧ Below w.heap.size w w' := by
  have HL := Lib.hid hl
  have HNL := Lib.hid hnl
  have HOK := Lib.hid hok
  obtain ⟨aA, oA, cA, rfl, _, hA⟩ := hf
  rw [hnf]
  have HA : Hid (RowsAt 9 Fr.cs w aA oA fs) := hA
  have HN := Lib.hid hnf
  clear hl hnl hok hA hnf
  go_enter Try.func25, Try.ntmps25
  have hs1 : (w.alloc (.cells (He.cs ⟨0, 0, 0, 0, 0⟩).toArray 31)).heap.size = w.heap.size + 1 := by simp
  have HR0 : Hid (ROne w.heap.size w (oneL l (fs.take 0) r) ((w.alloc (.cells (He.cs ⟨0, 0, 0, 0, 0⟩).toArray 31)).alloc (.cells (He.cs ⟨r, 0, 0, 0, 0⟩).toArray 31))) := by
    refine ⟨(Below.heap_alloc _ _ _ (by simp)).trans (heap_alloc_last _ _), ?_, ((Below.refl _ _).alloc (Nat.le_refl _) _).alloc (by simp) _, by simp⟩
    rw [← hs1]; exact heap_alloc_last _ _
  go_wp2_with first
    | refine wpList_build_of rfl 31 _ rfl _ [(0, .int .i64 r)] rfl (bH1 r) ?_
    | refine wpList_store_b rfl 31 _ _ rfl (w.alloc (.cells (He.cs ⟨0, 0, 0, 0, 0⟩).toArray 31)) _ (He.cs ⟨r, 0, 0, 0, 0⟩) (w.heap.size + 1) rfl rfl hs1 rfl Try.size31 rfl (He.ones _) ?_
  go_loopw [8, 9, 10] (fun i v9 v10 wr => ∃ k : Nat, k ≤ nf ∧ i = .int .i64 k ∧ Hid (ROne w.heap.size w (oneL l (fs.take k) r) wr)) (fun i _ _ _ => nf - (intOf i).toNat)
  case atStart => exact ⟨0, Nat.zero_le _, rfl, HR0⟩
  case round =>
    clear HR0
    obtain ⟨k, hk, rfl, HR⟩ := hrel
    obtain ⟨wo, rfl⟩ : ∃ wo : World, wo = wr := ⟨_, rfl⟩
    by_cases hlt : k < nf
    · obtain ⟨s, hs⟩ : ∃ s, fs[k]? = some s := ⟨_, List.getElem?_eq_getElem (by rw [HN.out]; exact hlt)⟩
      obtain ⟨bA, rfl, hbA, hrA⟩ := HA.out k s hs
      have HRA := Lib.hid (rangeAt_kept hrA HR.out.2.2.1 hbA)
      have HS := Lib.hid (oneL_snoc l fs r k s hs)
      have hlk : (fs.take k).length = k := by rw [List.length_take, HN.out]; omega
      have hho := oneL_ok HOK.out (fs.take k) r
      rw [hlk] at hho
      obtain ⟨h, hh⟩ : ∃ h, oneL l (fs.take k) r = h := ⟨_, rfl⟩
      rw [hh] at hho HS HR
      clear hrA hs hlk hh
      obtain ⟨r0, f0, mi0, wr0, co0⟩ := h
      obtain ⟨b1, b2, b3, b4, b5, b6, b7, b8⟩ := hho
      simp only at b1 b2 b3 b4 b5 b6 b7 b8
      have HLo := Lib.hid (HL.out.kept (w' := wo) (HR.out.2.2.1))
      have hcr : wo.cell? ⟨bA, oA + k * 9 + 1, none⟩ = some (.int .i64 s.reel) := HRA.out 1 _ rfl
      unfold ostep at HS
      by_cases hre : s.reel = r
      · rw [if_pos hre] at HS
        rw [hre] at hcr
        clear hre
        obtain ⟨ob, hob⟩ : ∃ ob, best l s = ob := ⟨_, rfl⟩
        rw [hob] at HS
        have HOB := Lib.hid hob
        have HBB : Hid (∀ c, ob = some c → 0 ≤ c ∧ c ≤ 52) := by
          intro c hc
          obtain ⟨t, ht, _, rfl⟩ := best_mem l s c (by rw [hob, hc])
          exact HOK.out t ht
        clear hob
        go_wp2_with first
          | refine wpList_load_mid rfl 39 _ rfl bA _ rfl s.cs _ HRA.out Try.underlying39 rfl Try.size39 ?_
        refine (rbest_any l s nl v _ HNL.out hnl2 HLo.out).mono ?_
        rintro e w4 ⟨rfl, hb4⟩
        have HR4 := Lib.hid (HR.out.kept hb4)
        have hh4 := HR4.out.2.1
        have hN4 : w.heap.size + 1 < w4.heap.size := HR4.out.2.2.2
        clear hb4 hcr
        rw [HOB.out]
        clear HOB
        cases ob with
        | none =>
          have HS' : Hid (oneL l (fs.take (k + 1)) r = ⟨r0, f0, mi0 + 1, wr0, co0⟩) := HS.out
          clear HS HBB
          go_wp2_with first
            | refine wpList_load_at rfl 3 _ rfl Try.isAgg3 ⟨w.heap.size + 1, 2, none⟩ _ rfl (cell_of_heap hh4 rfl) ?_
            | (refine wpList_store_fld rfl 3 _ _ rfl Try.size3 (w.heap.size + 1) 2 _ _ _ (He.cs ⟨r0, f0, mi0 + 1, wr0, co0⟩) hh4 rfl rfl rfl rfl (by show 2 < 5; omega) rfl ?_; intro w5 hb5 hh5 hz5)
          go_roundw
          case rel => exact ⟨k + 1, by omega, by go_num, by rw [HS'.out]; exact HR4.out.turn hb5 hh5⟩
          case measure => simp [intOf] <;> omega
        | some c =>
          have hc52 := HBB.out c rfl
          obtain ⟨hc0, hc1⟩ := hc52
          by_cases hf0 : f0 = 0
          · subst hf0
            have HS' : Hid (oneL l (fs.take (k + 1)) r = ⟨r0, 0 + 1, mi0, c, co0 + c⟩) := by unfold Hid; rw [HS.out]; simp
            clear HS HBB
            have hc41 : w4.cell? ⟨w.heap.size + 1, 1, none⟩ = some (.int .i64 0) := cell_of_heap hh4 rfl
            have hc43 : w4.cell? ⟨w.heap.size + 1, 3, none⟩ = some (.int .i64 wr0) := cell_of_heap hh4 rfl
            go_wp2_with first
              | (refine wpList_store_fld rfl 3 _ _ rfl Try.size3 (w.heap.size + 1) 3 _ _ _ (He.cs ⟨r0, 0, mi0, c, co0⟩) hh4 rfl rfl rfl rfl (by show 3 < 5; omega) rfl ?_; intro w5 hb5 hh5 hz5)
              | refine wpList_load_at rfl 3 _ rfl Try.isAgg3 ⟨w.heap.size + 1, 1, none⟩ (.int .i64 0) rfl (cell_of_heap hh5 rfl) ?_
              | (refine wpList_store_fld rfl 3 _ _ rfl Try.size3 (w.heap.size + 1) 1 _ _ _ (He.cs ⟨r0, 0 + 1, mi0, c, co0⟩) hh5 rfl rfl rfl rfl (by show 1 < 5; omega) rfl ?_; intro w6 hb6 hh6 hz6)
              | refine wpList_load_at rfl 3 _ rfl Try.isAgg3 ⟨w.heap.size + 1, 4, none⟩ (.int .i64 co0) rfl (cell_of_heap hh6 rfl) ?_
              | (refine wpList_store_fld rfl 3 _ _ rfl Try.size3 (w.heap.size + 1) 4 _ _ _ (He.cs ⟨r0, 0 + 1, mi0, c, co0 + c⟩) hh6 rfl rfl rfl rfl (by show 4 < 5; omega) rfl ?_; intro w7 hb7 hh7 hz7)
            go_roundw
            case rel => exact ⟨k + 1, by omega, by go_num, by rw [HS'.out]; exact ((HR4.out.turn hb5 hh5).turn hb6 hh6).turn hb7 hh7⟩
            case measure => simp [intOf] <;> omega
          · have hfz : (f0 == 0) = false := by simp [hf0]
            by_cases hwc : wr0 < c
            · have HS' : Hid (oneL l (fs.take (k + 1)) r = ⟨r0, f0 + 1, mi0, c, co0 + c⟩) := by unfold Hid; rw [HS.out]; simp [hf0, hwc]
              clear HS HBB
              have hc41 : w4.cell? ⟨w.heap.size + 1, 1, none⟩ = some (.int .i64 f0) := cell_of_heap hh4 rfl
              have hc43 : w4.cell? ⟨w.heap.size + 1, 3, none⟩ = some (.int .i64 wr0) := cell_of_heap hh4 rfl
              go_wp2_with first
                | (refine wpList_store_fld rfl 3 _ _ rfl Try.size3 (w.heap.size + 1) 3 _ _ _ (He.cs ⟨r0, f0, mi0, c, co0⟩) hh4 rfl rfl rfl rfl (by show 3 < 5; omega) rfl ?_; intro w5 hb5 hh5 hz5)
                | refine wpList_load_at rfl 3 _ rfl Try.isAgg3 ⟨w.heap.size + 1, 1, none⟩ (.int .i64 f0) rfl (cell_of_heap hh5 rfl) ?_
                | (refine wpList_store_fld rfl 3 _ _ rfl Try.size3 (w.heap.size + 1) 1 _ _ _ (He.cs ⟨r0, f0 + 1, mi0, c, co0⟩) hh5 rfl rfl rfl rfl (by show 1 < 5; omega) rfl ?_; intro w6 hb6 hh6 hz6)
                | refine wpList_load_at rfl 3 _ rfl Try.isAgg3 ⟨w.heap.size + 1, 4, none⟩ (.int .i64 co0) rfl (cell_of_heap hh6 rfl) ?_
                | (refine wpList_store_fld rfl 3 _ _ rfl Try.size3 (w.heap.size + 1) 4 _ _ _ (He.cs ⟨r0, f0 + 1, mi0, c, co0 + c⟩) hh6 rfl rfl rfl rfl (by show 4 < 5; omega) rfl ?_; intro w7 hb7 hh7 hz7)
              go_roundw
              case rel => exact ⟨k + 1, by omega, by go_num, by rw [HS'.out]; exact ((HR4.out.turn hb5 hh5).turn hb6 hh6).turn hb7 hh7⟩
              case measure => simp [intOf] <;> omega
            · have HS' : Hid (oneL l (fs.take (k + 1)) r = ⟨r0, f0 + 1, mi0, wr0, co0 + c⟩) := by unfold Hid; rw [HS.out]; simp [hf0, hwc]
              clear HS HBB
              have hc41 : w4.cell? ⟨w.heap.size + 1, 1, none⟩ = some (.int .i64 f0) := cell_of_heap hh4 rfl
              have hc43 : w4.cell? ⟨w.heap.size + 1, 3, none⟩ = some (.int .i64 wr0) := cell_of_heap hh4 rfl
              go_wp2_with first
                | (refine wpList_store_fld rfl 3 _ _ rfl Try.size3 (w.heap.size + 1) 1 _ _ _ (He.cs ⟨r0, f0 + 1, mi0, wr0, co0⟩) hh4 rfl rfl rfl rfl (by show 1 < 5; omega) rfl ?_; intro w6 hb6 hh6 hz6)
                | refine wpList_load_at rfl 3 _ rfl Try.isAgg3 ⟨w.heap.size + 1, 4, none⟩ (.int .i64 co0) rfl (cell_of_heap hh6 rfl) ?_
                | (refine wpList_store_fld rfl 3 _ _ rfl Try.size3 (w.heap.size + 1) 4 _ _ _ (He.cs ⟨r0, f0 + 1, mi0, wr0, co0 + c⟩) hh6 rfl rfl rfl rfl (by show 4 < 5; omega) rfl ?_; intro w7 hb7 hh7 hz7)
              go_roundw
              case rel => exact ⟨k + 1, by omega, by go_num, by rw [HS'.out]; exact (HR4.out.turn hb6 hh6).turn hb7 hh7⟩
              case measure => simp [intOf] <;> omega
      · rw [if_neg hre] at HS
        have HS' : Hid (oneL l (fs.take (k + 1)) r = ⟨r0, f0, mi0, wr0, co0⟩) := HS.out
        clear HS
        go_wp2_with fail
        go_roundw
        case rel => exact ⟨k + 1, by omega, by go_num, by rw [HS'.out]; exact HR.out⟩
        case measure => simp [intOf] <;> omega
    · have hnk : nf ≤ k := by omega
      obtain ⟨h, hh⟩ : ∃ h, oneL l fs r = h := ⟨_, rfl⟩
      have HF : Hid (ROne w.heap.size w h wo) := by
        unfold Hid
        have := HR.out
        rw [List.take_of_length_le (by rw [HN.out]; exact hnk), hh] at this
        exact this
      have HE := Lib.hid hh
      clear HR hh
      have HH := HF.out.2.1
      have HH0 := HF.out.1
      go_wp2_with first
        | refine wpList_load_mid rfl 31 _ rfl (w.heap.size + 1) 0 rfl h.cs _ (range_of_heap HH) Try.underlying31 rfl Try.size31 ?_
        | (refine wpList_store_blk rfl 31 _ _ rfl w.heap.size h.cs rfl rfl 31 _ HH0 Try.size31 rfl (He.ones h) ?_; intro w5 hb5 hh5 hz5)
      (try simp only [Exit.inBlock, Exit.then])
      refine bodyPost_ret (results_cell_row rfl _ _ w.heap.size 31 h.cs.toArray (0, 0) _ rfl hh5 Try.underlying31 rfl Try.size31) rfl ?_
      exact ⟨by rw [HE.out]; rfl, HF.out.2.2.1.trans hb5⟩
end Go.Proofs.Ytafididfgljfcaa
