/-
  The walks of gf256.binary, its iterator, and gf256.power.
-/
import Derived.Test.YtamkahjdedomlaaRange
import Derived.Test.YtamkahjdedomlaaGfMul
import Derived.Test.YtamkahjdedomlaaGfB
import Derived.OneCell
import Derived.Shelf.Abstract
namespace Go.Proofs.Ytamkahjdedomlaa
open Go.RowKit Go.Shelf
set_option linter.unusedVariables false
attribute [local go_sem] Oper.semAt_some

/-- The bits of an exponent, least significant first; at most 63. -/
def bitsTo : Nat → Nat → List Bool
  | 0, _ => []
  | f + 1, m => if m = 0 then [] else decide (m % 2 = 1) :: bitsTo f (m / 2)
def bitsOf (m : Nat) : List Bool := bitsTo m m
theorem bitsTo_enough (f : Nat) : ∀ g m, m ≤ f → m ≤ g → bitsTo f m = bitsTo g m := by
  induction f with
  | zero => intro g m h1 h2; obtain rfl : m = 0 := by omega
            cases g <;> simp [bitsTo]
  | succ f ih =>
    intro g m h1 h2
    cases g with
    | zero => obtain rfl : m = 0 := by omega
              simp [bitsTo]
    | succ g =>
      simp only [bitsTo]
      by_cases h : m = 0
      · rw [if_pos h, if_pos h]
      · rw [if_neg h, if_neg h, ih g (m / 2) (by omega) (by omega)]
theorem bitsOf_zero : bitsOf 0 = [] := rfl
theorem bitsOf_pos (m : Nat) (h : 0 < m) : bitsOf m = decide (m % 2 = 1) :: bitsOf (m / 2) := by
  unfold bitsOf
  obtain ⟨f, rfl⟩ : ∃ f, m = f + 1 := ⟨m - 1, by omega⟩
  simp only [bitsTo]
  rw [if_neg (by omega), bitsTo_enough f ((f + 1) / 2) _ (by omega) (Nat.le_refl _)]
theorem i64_odd (m : Nat) (h : m < 1073741824) : bits .and .i64 (m : Int) 1 = ((m % 2 : Nat) : Int) := by
  have := i64_and_nat m 1 h (by omega)
  rw [Nat.and_one_is_mod] at this
  exact this
def cellOf (w : World) (b : Nat) : Nat := match w.cell? ⟨b, 0, none⟩ with | some v => (intOf v).toNat | none => 0
theorem cellOf_one {w : World} {b m : Nat} {t : TypeId} (h : w.heap[b]? = some (.cells #[.int .i64 m] t (0, 0))) : cellOf w b = m := by
  unfold cellOf; rw [cell_of_one h]; simp [intOf]

set_option maxHeartbeats 1000000 in
theorem binary_seq (F : Fence) (n : Nat) (hF : F.fn 84) (hro : F.round = none) (hn : 1 ≤ n) (b m : Nat) (hm : m < 1000) :
    StateSeq F n Try.prog 84 #[.pointer (some ⟨b, 0, none⟩)] (fun x : Bool => #[.bool x]) b (bitsOf m) (.cells #[.int .i64 m] 3 (0, 0)) := by
  intro l J W hb hJ hY h0
  refine callsIn_of_wp Try.func84 rfl hF ?_ hro
  simp only [Try.ntmps84, List.size_toArray, List.length_cons, List.length_nil, Nat.reduceAdd, Nat.reduceSub, Array.replicate_succ, Array.replicate_zero, List.push_toArray, List.append_toArray, List.nil_append, List.cons_append]
  gi_wp2
  gi_loopw [] (fun wr => ∃ (pre : List Bool) (M : Nat), M < 1000 ∧ bitsOf m = pre ++ bitsOf M ∧ wr.heap[b]? = some (.cells #[.int .i64 M] 3 (0, 0)) ∧ J pre wr) (fun wr => cellOf wr b)
  case atStart => exact ⟨[], m, hm, rfl, hb, h0⟩
  case round =>
    obtain ⟨pre, M, hM, hpre, hbM, hJs⟩ := hrel
    have hc := cell_of_one hbM
    by_cases hz : 0 < M
    · obtain ⟨x, hx⟩ : ∃ x, decide (M % 2 = 1) = x := ⟨_, rfl⟩
      have hbits := bitsOf_pos M hz
      rw [hx] at hbits
      have hand : (bits .and .i64 (M : Int) 1 == 1) = x := by
        rw [i64_odd M (by omega), ← hx, Bool.eq_iff_iff, beq_iff_eq, decide_eq_true_iff]; omega
      have hp2 : bitsOf m = (pre ++ [x]) ++ bitsOf (M / 2) := by rw [hpre, hbits]; simp
      obtain ⟨fn, tmps, assign, body, hy, hR⟩ := hY pre x wr ⟨bitsOf (M / 2), hp2.symm⟩ hJs
      have HP2 := Lib.hid hp2
      have HB := Lib.hid hbM
      clear hbits hpre hp2 hbM
      gi_wp2
      refine hR.mono ?_
      rintro e W3 ⟨rfl, hJ3, hb3⟩
      have hb3' := hb3.trans HB.out
      have hc3 := cell_of_one hb3'
      have hf3 := free_of_one hb3'
      have HB3 := Lib.hid hb3'
      clear hb3 hb3' hc
      gi_wp2
      go_roundw
      case rel =>
        refine ⟨pre ++ [x], M / 2, by omega, HP2.out, ?_, hJ _ _ _ hJ3⟩
        rw [one_setCell HB3.out]; rfl
      case measure =>
        have ed : ((M : Int) / 2) = ((M / 2 : Nat) : Int) := by omega
        rw [ed, cellOf_one (one_setCell (u := .int .i64 ((M / 2 : Nat) : Int)) HB3.out), cellOf_one HB.out]; omega
    · obtain rfl : M = 0 := by omega
      rw [bitsOf_zero, List.append_nil] at hpre
      have HP := Lib.hid hpre
      clear hpre
      gi_wp2
      go_end0
      exact ⟨⟨_, rfl⟩, by rw [HP.out]; exact hJs⟩

theorem binary_any (m : Int) (w : World) : Calls Try.prog 75 #[.int .i64 m] w fun e w' => e = .returned (.func (.func 84) #[] #[.pointer (some ⟨w.heap.size, 0, none⟩)]) ∧ w.alloc (.cells #[.int .i64 m] 3) = w' := by
  go_enter Try.func75, Try.ntmps75
  go_wp2
  go_ret
  exact ⟨rfl, rfl⟩

def bitsVal : List Bool → Nat
  | [] => 0
  | x :: l => (if x then 1 else 0) + 2 * bitsVal l
theorem bitsVal_of (m : Nat) : bitsVal (bitsOf m) = m := by
  induction m using Nat.strongRecOn with
  | ind m ih =>
    by_cases h : m = 0
    · subst h; rfl
    · rw [bitsOf_pos m (by omega)]
      simp only [bitsVal]
      rw [ih (m / 2) (by omega)]
      by_cases e : m % 2 = 1 <;> simp [e] <;> omega
theorem bitsVal_snoc (l : List Bool) (x : Bool) : bitsVal (l ++ [x]) = bitsVal l + (if x then 2 ^ l.length else 0) := by
  induction l with
  | nil => cases x <;> rfl
  | cons y l ih =>
    simp only [List.cons_append, bitsVal, List.length_cons, Nat.pow_succ]
    rw [ih]
    cases x <;> cases y <;> simp <;> omega
theorem F.powB_snoc_yes (a : UInt8) (l : List Bool) : F.powB a (bitsVal (l ++ [true])) = F.mulB (F.powB a (bitsVal l)) (F.powB a (2 ^ l.length)) := by
  rw [bitsVal_snoc]; exact congrArg F.byte (F.pow_add (F.mk a) _ _)
theorem F.powB_snoc_no (a : UInt8) (l : List Bool) : F.powB a (bitsVal (l ++ [false])) = F.powB a (bitsVal l) := by
  rw [bitsVal_snoc]; rfl
theorem F.powB_double (a : UInt8) (l : List Bool) (x : Bool) : F.powB a (2 ^ (l ++ [x]).length) = F.mulB (F.powB a (2 ^ l.length)) (F.powB a (2 ^ l.length)) := by
  rw [List.length_append]; show F.powB a (2 ^ (l.length + 1)) = _
  rw [Nat.pow_succ, Nat.mul_two]; exact congrArg F.byte (F.pow_add (F.mk a) _ _)

set_option maxHeartbeats 1000000 in
theorem power_any (a : UInt8) (m : Nat) (hm : m < 1000) (w : World) :
    Calls Try.prog 46 #[.int .u8 a.toNat, .int .i64 m] w fun e w' => e = .returned (.int .u8 (F.powB a m).toNat) ∧ Below w.heap.size w w' := by
  refine (callsIn_wide (n := 3)).1 ?_
  refine callsIn_of_wp_marks Try.func46 rfl trivial ?_ rfl
  simp only [Try.ntmps46, List.size_toArray, List.length_cons, List.length_nil, Nat.reduceAdd, Nat.reduceSub, Array.replicate_succ, Array.replicate_zero, List.push_toArray, List.append_toArray, List.nil_append, List.cons_append]
  gi_wp2_with (first | (refine ⟨trivial, ?_⟩; gi_at_call 75; refine (callsIn_wide.2 (binary_any _ _)).mono ?_; rintro e w' ⟨rfl, rfl⟩) | (gi_at_call 75; refine (callsIn_wide.2 (binary_any _ _)).mono ?_; rintro e w' ⟨rfl, rfl⟩))
  obtain ⟨w0, hw0⟩ : ∃ w0, (((w.alloc (Obj.cells #[Value.int IntKind.u8 a.toNat] 5)).alloc (Obj.cells #[Value.int IntKind.u8 1] 5)).alloc (Obj.cells #[Value.int IntKind.i64 m] 3)) = w0 := ⟨_, rfl⟩
  have hz : w0.heap.size = w.heap.size + 3 := by rw [← hw0]; simp
  have bA : Boxed w0 w.heap.size 5 (.int .u8 a.toNat) := by rw [← hw0]; exact ((Boxed.new _ _ _).alloc _).alloc _
  have bP : Boxed w0 (w.heap.size + 1) 5 (.int .u8 1) := by
    rw [← hw0]
    have := Boxed.new (w.alloc (Obj.cells #[Value.int IntKind.u8 a.toNat] 5)) 5 (.int .u8 1)
    rw [World.size_alloc] at this
    exact this.alloc _
  have bN : w0.heap[w.heap.size + 1 + 1]? = some (.cells #[.int .i64 m] 3 (0, 0)) := by
    rw [← hw0]
    have := Boxed.new ((w.alloc (Obj.cells #[Value.int IntKind.u8 a.toNat] 5)).alloc (Obj.cells #[Value.int IntKind.u8 1] 5)) 3 (.int .i64 m)
    rw [World.size_alloc, World.size_alloc] at this
    exact this
  have hB : Below w.heap.size w w0 := by rw [← hw0]; exact (((Below.refl _ w).alloc (Nat.le_refl _) _).alloc (by simp) _).alloc (by simp; omega) _
  rw [hw0]
  clear hw0
  refine wpIn_range_state (gf := 84) (lb := #[.pointer (some ⟨w.heap.size + 1 + 1, 0, none⟩)]) rfl (by omega) rfl trivial (enters_of Try.func84 (by kernel_rfl) rfl)
    (binary_seq Fence.wide 2 trivial rfl (by omega) (w.heap.size + 1 + 1) m hm) bN (fun _ => rfl)
    (fun pre W => Boxed W w.heap.size 5 (.int .u8 (F.powB a (2 ^ pre.length)).toNat) ∧ Boxed W (w.heap.size + 1) 5 (.int .u8 (F.powB a (bitsVal pre)).toNat) ∧ Below w.heap.size w W)
    ?hIb ?hIs ?h0
    (fun x => { tmps := #[.int .u8 a.toNat, .int .i64 m, .pointer (some ⟨w.heap.size, 0, none⟩), undef, .int .u8 0, .pointer (some ⟨w.heap.size + 1, 0, none⟩), .bool x, .int .i64 m,
      .func (.func 84) #[] #[.pointer (some ⟨w.heap.size + 1 + 1, 0, none⟩)], .bool x, undef, undef, undef, undef, undef, undef, undef, undef], defers := [] }) ?assign ?body ?done
  case hIb =>
    rintro pre W W' hbw ⟨h1, h2, h3⟩
    exact ⟨(hbw.block _ (by omega)).trans h1, (hbw.block _ (by omega)).trans h2, h3.trans (hbw.mono (by omega))⟩
  case hIs =>
    rintro pre W v ⟨h1, h2, h3⟩
    exact ⟨h1.other (by omega) _, h2.other (by omega) _, h3.setCell (by show _ ≤ w.heap.size + 1 + 1; omega) _⟩
  case h0 =>
    have e1 : F.powB a (2 ^ ([] : List Bool).length) = a := F.pow_one (F.mk a)
    exact ⟨by rw [e1]; exact bA, bP, hB⟩
  case assign =>
    intro l x W K hK
    gi_wp2
    exact hK
  case body =>
    rintro l pre x W hpre ⟨h1, h2, h3⟩
    have c1 := h1.cell
    have f1 := h1.frozen
    have c2 := h2.cell
    have f2 := h2.frozen
    cases x
    · gi_wp2_with (refine ⟨trivial, ?_⟩; gi_at_call 32; refine (CallsIn.inRound l (callsIn_wide.2 (mul_any _ _ _))).mono ?_; rintro e w' ⟨rfl, rfl⟩)
      refine ⟨KeepsOthers.setCell _ _ _, ?_, ?_, ?_, ?_⟩
      · exact Below.heap_setCell _ _ _ _ (by show _ ≠ w.heap.size; omega)
      · rw [F.powB_double]; exact h1.set _
      · rw [F.powB_snoc_no]; exact h2.other (by omega) _
      · exact h3.setCell (Nat.le_refl _) _
    · gi_wp2_with (refine ⟨trivial, ?_⟩; gi_at_call 32; refine (CallsIn.inRound l (callsIn_wide.2 (mul_any _ _ _))).mono ?_; rintro e w' ⟨rfl, rfl⟩)
      refine ⟨(KeepsOthers.setCell _ _ _).trans (KeepsOthers.setCell _ _ _), ?_, ?_, ?_, ?_⟩
      · exact (Below.heap_setCell _ _ _ _ (by show _ ≠ w.heap.size; omega)).trans (Below.heap_setCell _ _ _ _ (by show _ ≠ w.heap.size + 1; omega))
      · rw [F.powB_double]; exact (h1.other (by omega) _).set _
      · rw [F.powB_snoc_yes]; exact (h2.set _).other (by omega) _
      · exact (h3.setCell (by show _ ≤ w.heap.size + 1; omega) _).setCell (Nat.le_refl _) _
  case done =>
    rintro D W hD ⟨h1, h2, h3⟩ hK
    have c2 := h2.cell
    gi_wp2
    refine ⟨by simp, .inl ⟨_, _, rfl, run_takeDeferred hK, ?_⟩⟩
    rw [bitsVal_of]
    refine ⟨_, results_tmp rfl _ _ _, rfl, ?_⟩
    exact h3.trans (below_putObj _ _ _ (by omega))
end Go.Proofs.Ytamkahjdedomlaa
