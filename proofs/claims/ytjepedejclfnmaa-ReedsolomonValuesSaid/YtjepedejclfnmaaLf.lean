/-
  The walks of reedsolomon.divider and of its closure.
-/
import Derived.Test.YtjepedejclfnmaaEv
import Derived.Test.YtjepedejclfnmaaLfPlain
import Derived.Laws.CopyOwn
namespace Go.Proofs.Ytjepedejclfnmaa
open Go.RowKit
set_option linter.unusedVariables false

/-- Only the block b changes. -/
structure Onl (B b : Nat) (w w' : World) : Prop where
  below : Below B w w'
  size : w'.heap.size = w.heap.size
  other : ∀ k, k ≠ b → w'.heap[k]? = w.heap[k]?
theorem Onl.refl (B b : Nat) (w : World) : Onl B b w w := ⟨Below.refl _ _, rfl, fun _ _ => rfl⟩
theorem Onl.trans {B b : Nat} {w w1 w2 : World} (h : Onl B b w w1) (k : Onl B b w1 w2) : Onl B b w w2 :=
  ⟨h.below.trans k.below, k.size.trans h.size, fun i hi => (k.other i hi).trans (h.other i hi)⟩
theorem Onl.drew {B b : Nat} {w w1 : World} (h : Onl B b w w1) : Onl B b w w1.drew := ⟨h.below.drew, h.size, h.other⟩
theorem Onl.setCell {B b : Nat} {w w1 : World} (h : Onl B b w w1) (hB : B ≤ b) (o : Nat) (v : Value) : Onl B b w (w1.setCell ⟨b, o, none⟩ v) :=
  ⟨h.below.setCell hB _, by rw [size_setCell]; exact h.size, fun k hk => (Below.heap_setCell _ _ _ _ hk).trans (h.other k hk)⟩
theorem Onl.setCells {B b : Nat} (hB : B ≤ b) (vs : List Value) : ∀ (o : Nat) {w w1 : World}, Onl B b w w1 → Onl B b w (w1.setCells b o vs) := by
  induction vs with
  | nil => intro o w w1 h; exact h
  | cons x r ih => intro o w w1 h; simp only [World.setCells]; exact ih _ (h.setCell hB _ _)
theorem Onl.cell {B b : Nat} {w w1 : World} (h : Onl B b w w1) {p : Addr} (hp : p.block ≠ b) : w1.cell? p = w.cell? p := World.cell?_of_block (w := w) (h.other _ hp)
theorem Onl.cells {B b : Nat} {w w1 : World} (h : Onl B b w w1) {g : Nat} {l : List UInt8} (hc : Cells w g l) (hg : g ≠ b) : Cells w1 g l := hc.same (by rw [h.size]; exact Nat.le_refl _) (h.other g hg)
theorem Cells.setMany {g : Nat} (m : List UInt8) : ∀ (o : Nat) {w : World} {l : List UInt8}, Cells w g l → o + m.length ≤ l.length → Cells (w.setCells g o (m.map u8v)) g (setMany l o m) := by
  induction m with
  | nil => intro o w l h _; exact h
  | cons x r ih =>
    intro o w l h hl
    rw [List.length_cons] at hl
    exact ih (o + 1) (h.set o (by omega) x) (by rw [List.length_set]; omega)

/-- 'copy(b, b[1:])' for a row that lies at the head of block g. -/
theorem wpList_copy_down {P : Program} {w : World} {ops : Array Oper} {rest : List Oper} {o : Oper} {a : Act} {Q : Exit → Act → World → Prop} (hgd : o.guard = none) (d s : Operand) (t e : TypeId)
    (ho : o.op = .call { callee := .builtin .copy, args := #[d, s], argTypes := #[t, t] }) (ht : P.underlying t = some (.slice e)) (h2 : (P.info? e).map (fun i => (i.zero, i.size, i.bytes)) = some (some (.int .u8 0), 1, 1))
    (g p dc sc m : Nat) (l : List UInt8) (hl : l.length = p) (h1 : 2 ≤ p) (hm : m = p - 1) (hd : a.eval d = .slice (some ⟨g, 0, none⟩) p dc) (hs : a.eval s = .slice (some ⟨g, 1, none⟩) m sc) (hC : Cells w g l)
    (h : wpList P ops Q rest (a.put o.dst (.int .i64 m)) (w.setCells g 0 ((l.drop 1).map u8v))) : wpList P ops Q (o :: rest) a w := by
  obtain ⟨i, hi, hz0, hz1, hz2⟩ := info_u8 h2
  subst hm
  have hdl : (l.drop 1).length = p - 1 := by rw [List.length_drop, hl]
  refine wpList_plain hgd fun K hK => ?_
  have hrun := run_copy_cells (P := P) w t t o.type e g 0 p dc ⟨g, 1, none⟩ (p - 1) sc ((l.drop 1).map u8v) ht (by rw [hi]; simpa using hz1) (by rw [List.length_map, hdl]; show p - 1 = min (p - 1) p; omega)
    (by
      intro j u hj
      rw [List.getElem?_map] at hj
      obtain ⟨b, hb1, hb2⟩ := Option.map_eq_some_iff.1 hj
      rw [List.getElem?_drop] at hb1
      have hjl : 1 + j < l.length := (List.getElem?_eq_some_iff.1 hb1).1
      have e1 : (⟨g, 1, none⟩ : Addr).add j = ⟨g, 1 + j, none⟩ := by unfold Addr.add; split <;> simp_all
      rw [e1, hC.at _ hjl, hb1, ← hb2]; rfl)
    (by
      intro j hj
      rw [List.length_map, hdl] at hj
      rw [Nat.zero_add, hC.at j (by omega)]; rfl)
    (by
      intro j hj
      rw [List.length_map, hdl] at hj
      rw [Nat.zero_add]; exact hC.free j (by omega))
    (by
      intro u hu
      obtain ⟨b, _, hb2⟩ := List.mem_map.1 hu
      rw [← hb2]; rfl)
  rw [List.length_map, hdl] at hrun
  unfold Oper.wp
  simp [execOp, ho, resolve, invoke, builtin, hd, hs, hrun, Result.andThen]
  rw [List.map_drop, List.drop_one] at h
  exact hK _ _ h

theorem divider_any (g p cap : Nat) (w : World) (hp : 1 ≤ p) (hp2 : p ≤ 64) : Calls Try.prog 27 #[.slice (some ⟨g, 0, none⟩) (p + 1) cap] w fun e w' => ∃ b0 b1 b2 b3 : Nat,
    e = .returned (.tuple #[.func (.func 34) #[] #[.pointer (some ⟨b3, 0, none⟩), .pointer (some ⟨b1, 0, none⟩), .pointer (some ⟨b0, 0, none⟩)], .slice (some ⟨b2, 0, none⟩) p p])
    ∧ w.heap.size ≤ b2 ∧ b0 ≠ b2 ∧ b1 ≠ b2 ∧ b3 ≠ b2 ∧ w'.cell? ⟨b0, 0, none⟩ = some (.slice (some ⟨g, 0, none⟩) (p + 1) cap) ∧ w'.cell? ⟨b1, 0, none⟩ = some (.int .i64 p) ∧ w'.cell? ⟨b3, 0, none⟩ = some (.slice (some ⟨b2, 0, none⟩) p p)
    ∧ Cells w' b2 (List.replicate p 0) ∧ Below w.heap.size w w' := by
  go_enter Try.func27, Try.ntmps27
  go_wp2_with (at_make; refine wpList_make_bytes rfl _ _ 22 5 rfl Try.underlying22 Try.infoU8 p (by go_num) (by go_num) (by omega) ?_; intro w1 hC1 hB1 hz1)
  obtain ⟨w0, hw0⟩ : ∃ w0, (w.alloc (.cells #[.slice (some ⟨g, 0, none⟩) (p + 1) cap] 22)).alloc (.cells #[.int .i64 p] 3) = w0 := ⟨_, rfl⟩
  have hB0 : Below w.heap.size w w0 := by rw [← hw0]; exact ((Below.refl _ w).alloc (Nat.le_refl _) _).alloc (by simp) _
  have hs0 : w0.heap.size = w.heap.size + 1 + 1 := by rw [← hw0]; simp
  have c0 : w0.cell? ⟨w.heap.size, 0, none⟩ = some (.slice (some ⟨g, 0, none⟩) (p + 1) cap) := by
    rw [← hw0, World.cell?_of_block (w := w.alloc (.cells #[.slice (some ⟨g, 0, none⟩) (p + 1) cap] 22)) (Below.heap_alloc _ _ _ (by simp))]
    rw [World.cell?_alloc_mark]; rfl
  have c1 : w0.cell? ⟨w.heap.size + 1, 0, none⟩ = some (.int .i64 p) := by
    have := World.cell?_alloc_mark (w.alloc (.cells #[.slice (some ⟨g, 0, none⟩) (p + 1) cap] 22)) #[.int .i64 p] 3 (0, 0) 0
    rw [show (w.alloc (.cells #[.slice (some ⟨g, 0, none⟩) (p + 1) cap] 22)).heap.size = w.heap.size + 1 by simp] at this
    rw [← hw0]; exact this
  rw [hw0, hs0] at hC1 hB1 hz1
  obtain ⟨w2, hw2⟩ : ∃ w2, w1.alloc (.cells #[.slice (some ⟨w.heap.size + 1 + 1, 0, none⟩) p p] 22) = w2 := ⟨_, rfl⟩
  have d0 : w2.cell? ⟨w.heap.size, 0, none⟩ = some (.slice (some ⟨g, 0, none⟩) (p + 1) cap) := by
    rw [← hw2, World.cell?_of_block (w := w1) (Below.heap_alloc _ _ _ (by show w.heap.size < _; omega))]
    exact (hB1.cell (p := ⟨w.heap.size, 0, none⟩) (by show w.heap.size < _; omega)).trans c0
  have d1 : w2.cell? ⟨w.heap.size + 1, 0, none⟩ = some (.int .i64 p) := by
    rw [← hw2, World.cell?_of_block (w := w1) (Below.heap_alloc _ _ _ (by show w.heap.size + 1 < _; omega))]
    exact (hB1.cell (p := ⟨w.heap.size + 1, 0, none⟩) (by show w.heap.size + 1 < _; omega)).trans c1
  have d3 : w2.cell? ⟨w1.heap.size, 0, none⟩ = some (.slice (some ⟨w.heap.size + 1 + 1, 0, none⟩) p p) := by
    rw [← hw2, World.cell?_alloc_mark]; rfl
  have d2 : Cells w2 (w.heap.size + 1 + 1) (List.replicate p 0) := by rw [← hw2]; exact hC1.alloc _
  have dB : Below w.heap.size w w2 := by
    rw [← hw2]; exact (hB0.trans (hB1.mono (by omega))).alloc (by omega) _
  rw [hw2]
  have hne : w1.heap.size ≠ w.heap.size + 1 + 1 := by omega
  obtain ⟨b3, hb3⟩ : ∃ b3, w1.heap.size = b3 := ⟨_, rfl⟩
  rw [hb3] at d3 hne ⊢
  have D0 := Lib.hid d0
  have D1 := Lib.hid d1
  have D2 := Lib.hid d2
  have DB := Lib.hid dB
  have HNE := Lib.hid hne
  clear d0 d1 d2 dB hne hb3 hw2 hw0 c0 c1 hs0 hB0 hC1 hB1 hz1
  go_region
  all_goals
    go_wp2
    go_ret2
    exact ⟨w.heap.size, w.heap.size + 1, w.heap.size + 1 + 1, b3, rfl, by omega, by omega, by omega, HNE.out, D0.out, D1.out, d3, D2.out, DB.out.drew⟩

set_option maxRecDepth 100000 in
set_option maxHeartbeats 1000000 in
theorem step_any (B g p cap b0 b1 b2 b3 : Nat) (G st : List UInt8) (d : UInt8) (w : World) (hp : 1 ≤ p) (hp2 : p ≤ 64) (hBb : B ≤ b2) (hGl : G.length = p + 1) (hsl : st.length = p) (hgb : g ≠ b2) (h0 : b0 ≠ b2) (h1 : b1 ≠ b2) (h3 : b3 ≠ b2)
    (c0 : w.cell? ⟨b0, 0, none⟩ = some (.slice (some ⟨g, 0, none⟩) (p + 1) cap)) (c1 : w.cell? ⟨b1, 0, none⟩ = some (.int .i64 p)) (c3 : w.cell? ⟨b3, 0, none⟩ = some (.slice (some ⟨b2, 0, none⟩) p p))
    (hG : Cells w g G) (hS : Cells w b2 st) :
    Calls Try.prog 34 #[.int .u8 d.toNat, .pointer (some ⟨b3, 0, none⟩), .pointer (some ⟨b1, 0, none⟩), .pointer (some ⟨b0, 0, none⟩)] w fun e w' => e = .returned (.tuple #[]) ∧ Cells w' b2 (lfStep st G d) ∧ Onl B b2 w w' := by
  have hst := hS.at 0 (by omega)
  obtain ⟨s0, hs0⟩ : ∃ s0, st[0]?.getD 0 = s0 := ⟨_, rfl⟩
  rw [hs0] at hst
  obtain ⟨f, hf⟩ : ∃ f, d ^^^ s0 = f := ⟨_, rfl⟩
  have HF := Lib.hid hf
  have HFF : Hid (lfStep st G d = lfIn (shl st) G f p p) := by unfold lfStep Hid; rw [hs0, hf, hsl]
  have HS := Lib.hid hS
  have HSL := Lib.hid hsl
  have HGL := Lib.hid hGl
  have HG := Lib.hid hG
  have hi0 : (0 : Int) < p := by omega
  clear hs0 hf hS hsl hGl hG
  go_enter Try.func34, Try.ntmps34
  go_wp2_with fail
  refine (add_r d s0 f HF _).mono ?_
  rintro e w' ⟨rfl, rfl⟩
  go_wp2
  have hml : (setMany st 0 (st.drop 1)).length = p := by rw [setMany_len, HSL.out]
  have hsh : (setMany st 0 (st.drop 1)).set (p - 1) 0 = shl st := by unfold shl; rw [HSL.out]
  have HML := Lib.hid hml
  have HSH := Lib.hid hsh
  clear hml hsh
  have e1 : IntKind.i64.wrap ((p : Int) - 1) = (p : Int) - 1 := IntWalk.i64_in _ (by omega)
  have e2 : ((p : Int) - 1).toNat = p - 1 := by omega
  have e3 : 0 ≤ (p : Int) - 1 := by omega
  have e4 : (p : Int) - 1 < (p : Int) := by omega
  rename_i K hK0
  have hK : ∀ (v14 v15 : Value) (w1 : World), Cells w1 b2 (setMany st 0 (st.drop 1)) → Onl B b2 w w1 → K { tmps := #[.int .u8 d.toNat, .pointer (some ⟨b3, 0, none⟩), .pointer (some ⟨b1, 0, none⟩), .pointer (some ⟨b0, 0, none⟩), undef, .int .u8 f.toNat, undef, .int .u8 d.toNat, .slice (some ⟨b2, 0, none⟩) p p, .pointer (some ⟨b2, 0, none⟩), .int .u8 s0.toNat, .int .u8 f.toNat, .slice (some ⟨b2, 0, none⟩) p p, .slice (some ⟨b2, 0, none⟩) p p, v14, v15, undef, undef, undef, undef, undef, undef, undef, undef, undef, undef, undef, undef, undef, undef, undef, undef, undef, undef, undef, undef, undef, undef, undef, undef, undef, undef, undef], defers := [] } w1 := by
    intro v14 v15 w1 hC1 hO1
    apply hK0
    have q0 := (hO1.cell (p := ⟨b0, 0, none⟩) h0).trans c0
    have q1 := (hO1.cell (p := ⟨b1, 0, none⟩) h1).trans c1
    have q3 := (hO1.cell (p := ⟨b3, 0, none⟩) h3).trans c3
    have C0 := Lib.hid c0
    have C1 := Lib.hid c1
    have C3 := Lib.hid c3
    clear c0 c1 c3 hst
    have hfo := hC1.free (p - 1) (by rw [HML.out]; omega)
    have hco := hC1.at (p - 1) (by rw [HML.out]; omega)
    have hC2 := hC1.set (p - 1) (by rw [HML.out]; omega) 0
    rw [HSH.out] at hC2
    have hO2 := hO1.setCell hBb (p - 1) (.int .u8 (0 : UInt8).toNat)
    have HC2 := Lib.hid hC2
    have HO2 := Lib.hid hO2
    clear hC1 hO1 hC2 hO2
    go_wp2
    go_loopw [22] (fun i wr => ∃ k : Nat, k ≤ p ∧ i = .int .i64 k ∧ Cells wr b2 (lfIn (shl st) G f p k) ∧ Onl B b2 w wr) (fun i _ => p - (intOf i).toNat)
    case atStart => exact ⟨0, Nat.zero_le _, rfl, HC2.out, HO2.out⟩
    case round =>
      obtain ⟨k, hk, rfl, hC, hO⟩ := hrel
      clear q0 q1 q3 hfo hco HC2 HO2
      by_cases hlt : k < p
      · have c0 := (hO.cell (p := ⟨b0, 0, none⟩) h0).trans C0.out
        have c1 := (hO.cell (p := ⟨b1, 0, none⟩) h1).trans C1.out
        have c3 := (hO.cell (p := ⟨b3, 0, none⟩) h3).trans C3.out
        have hlen : (lfIn (shl st) G f p k).length = p := by rw [lfIn_len, shl_len, HSL.out]
        have hgc := (hO.cells HG.out hgb).at (p - 1 - k) (by rw [HGL.out]; omega)
        have hco := hC.at k (by rw [hlen]; exact hlt)
        have hfo := hC.free k (by rw [hlen]; exact hlt)
        have hst : Hid (lfIn (shl st) G f p (k + 1) = (lfIn (shl st) G f p k).set k ((lfIn (shl st) G f p k)[k]?.getD 0 ^^^ F.mulB f (G[p - 1 - k]?.getD 0))) := rfl
        obtain ⟨x, hx⟩ : ∃ x, (lfIn (shl st) G f p k)[k]?.getD 0 = x := ⟨_, rfl⟩
        obtain ⟨y, hy⟩ : ∃ y, G[p - 1 - k]?.getD 0 = y := ⟨_, rfl⟩
        rw [hx] at hco hst
        rw [hy] at hgc hst
        obtain ⟨z, hz⟩ : ∃ z, x ^^^ F.mulB f y = z := ⟨_, rfl⟩
        have HZ := Lib.hid hz
        have HC := Lib.hid hC
        have HO := Lib.hid hO
        have HLEN := Lib.hid hlen
        clear hx hy hz hC hO hlen C0 C1 C3
        have i1 : IntKind.i64.wrap ((p : Int) - 1 - k) = (p : Int) - 1 - k := IntWalk.i64_in _ (by omega)
        have i2 : ((p : Int) - 1 - k).toNat = p - 1 - k := by omega
        have i3 : 0 ≤ (p : Int) - 1 - k := by omega
        have i4 : (p : Int) - 1 - k < (p : Int) + 1 := by omega
        have i5 : (k : Int) < (p : Int) := by omega
        have i6 : (k : Int) ≤ (p : Int) - 1 := by omega
        go_wp2_with fail
        go_still_tail 17, (by kernel_rfl)
        still_call (still_same (mul_any f y _))
        repeat still_step
        still_call (still_same (add_r x (F.mulB f y) z HZ _))
        repeat still_step
        refine wpStill_nil ?_
        change wpList _ _ _ _ _ wr.drew
        go_wp2
        go_roundw
        case rel => exact ⟨k + 1, by omega, by go_num, by rw [hst.out, HZ.out]; exact (HC.out.set _ (by rw [HLEN.out]; exact hlt) z).drew, (HO.out.setCell hBb _ _).drew⟩
        case measure => simp [intOf] <;> omega
      · obtain rfl : k = p := by omega
        go_wp2
        go_end0
        exact ⟨rfl, by rw [HFF.out]; exact hC, hO⟩
  by_cases hp1 : p = 1
  · subst hp1
    have hdn : st.drop 1 = [] := List.eq_nil_of_length_eq_zero (by rw [List.length_drop, HSL.out])
    go_still_tail 3, (by kernel_rfl)
    refine wpList_copy_nothing rfl _ _ 22 22 rfl 5 Try.underlying22 (by kernel_rfl) (some ⟨b2, 0, none⟩) (some ⟨b2, 0, none⟩) 1 1 0 0 rfl rfl rfl ?_
    go_wp2
    exact hK _ _ w.drew (by rw [hdn]; exact HS.out.drew) (Onl.refl _ _ w).drew
  · have hp2' : 2 ≤ p := by omega
    have j1 : (1 : Int) ≤ p := by omega
    have j2 : ¬ (1 : Int) = p := by omega
    go_still_tail 3, (by kernel_rfl)
    change wpList _ _ _ _ _ w.drew
    refine wpList_copy_down rfl _ _ 22 5 rfl Try.underlying22 Try.infoU8 b2 p p (p - 1) (p - 1) st HSL.out hp2' rfl ?hd ?hs HS.out.drew ?_
    case hd => rfl
    case hs => rfl
    go_wp2
    have hCC := Cells.setMany (st.drop 1) 0 HS.out.drew (by rw [List.length_drop, HSL.out]; omega)
    have hCO := Onl.setCells hBb ((st.drop 1).map u8v) 0 (Onl.refl B b2 w).drew
    rw [List.map_drop, List.drop_one] at hCC hCO
    exact hK _ _ _ hCC hCO
end Go.Proofs.Ytjepedejclfnmaa
