/-
  The product that is computed bit by bit and reduced afterwards is the field's product.
-/
import Derived.Test.YtamkahjdedomlaaGf
namespace Go.Proofs.Ytamkahjdedomlaa
open Go.RowKit

theorem i64_xor_nat (a b : Nat) (ha : a < 1073741824) (hb : b < 1073741824) : bits .xor .i64 (a : Int) (b : Int) = ((a ^^^ b : Nat) : Int) := by
  have hx : a ^^^ b < 2 ^ 30 := Nat.xor_lt_two_pow (by omega) (by omega)
  have h1 : (BitVec.ofInt 64 (a : Int)).toNat = a := by
    rw [BitVec.ofInt_natCast, BitVec.toNat_ofNat]; exact Nat.mod_eq_of_lt (by omega)
  have h2 : (BitVec.ofInt 64 (b : Int)).toNat = b := by
    rw [BitVec.ofInt_natCast, BitVec.toNat_ofNat]; exact Nat.mod_eq_of_lt (by omega)
  show IntKind.i64.wrap ((BitVec.ofInt 64 (a : Int) ^^^ BitVec.ofInt 64 (b : Int)).toNat : Int) = _
  rw [BitVec.toNat_xor, h1, h2, IntKind.wrap_i64]
  omega
theorem i64_and_nat (a b : Nat) (ha : a < 1073741824) (hb : b < 1073741824) : bits .and .i64 (a : Int) (b : Int) = ((a &&& b : Nat) : Int) := by
  have hx : a &&& b < 2 ^ 30 := Nat.and_lt_two_pow _ (by omega)
  have h1 : (BitVec.ofInt 64 (a : Int)).toNat = a := by
    rw [BitVec.ofInt_natCast, BitVec.toNat_ofNat]; exact Nat.mod_eq_of_lt (by omega)
  have h2 : (BitVec.ofInt 64 (b : Int)).toNat = b := by
    rw [BitVec.ofInt_natCast, BitVec.toNat_ofNat]; exact Nat.mod_eq_of_lt (by omega)
  show IntKind.i64.wrap ((BitVec.ofInt 64 (a : Int) &&& BitVec.ofInt 64 (b : Int)).toNat : Int) = _
  rw [BitVec.toNat_and, h1, h2, IntKind.wrap_i64]
  omega
/-- The test on bit k, as the walk spells it. -/
theorem i64_bit (b k : Nat) (hb : b < 1073741824) : bits .and .i64 ((b : Int) / 2 ^ k) 1 = if b.testBit k then 1 else 0 := by
  have e : ((b : Int) / 2 ^ k) = ((b / 2 ^ k : Nat) : Int) := by
    rw [Int.natCast_ediv]; simp
  have hlt : b / 2 ^ k < 1073741824 := Nat.lt_of_le_of_lt (Nat.div_le_self _ _) hb
  have := i64_and_nat (b / 2 ^ k) 1 hlt (by omega)
  rw [Nat.and_one_is_mod] at this
  rw [e]
  refine Eq.trans this ?_
  rw [Nat.testBit_eq_decide_div_mod_eq]
  by_cases h : b / 2 ^ k % 2 = 1
  · rw [h]; rfl
  · rw [show b / 2 ^ k % 2 = 0 by omega]; rfl

namespace F
/-- The polynomial product of a and the k low bits of b. -/
def polyTo (a b : Nat) : Nat → Nat
  | 0 => 0
  | k + 1 => polyTo a b k ^^^ (if b.testBit k then a <<< k else 0)
/-- One step of the reduction, at bit k. -/
def redAt (p k : Nat) : Nat := if p.testBit k then p ^^^ (285 <<< (k - 8)) else p
/-- The reduction at the bits 14, 13, .. : j steps. -/
def redTo (p : Nat) : Nat → Nat
  | 0 => p
  | j + 1 => redAt (redTo p j) (14 - j)
theorem ite_xor (c c' : Bool) (x : Nat) : (if (c ^^ c') then x else 0) = (if c then x else 0) ^^^ (if c' then x else 0) := by
  cases c <;> cases c' <;> simp
theorem redAt_eq (p k : Nat) : redAt p k = p ^^^ (if p.testBit k then 285 <<< (k - 8) else 0) := by
  unfold redAt; split <;> simp
theorem redAt_xor (p q k : Nat) : redAt (p ^^^ q) k = redAt p k ^^^ redAt q k := by
  rw [redAt_eq, redAt_eq, redAt_eq, Nat.testBit_xor, ite_xor, xor4]
theorem redTo_xor (p q j : Nat) : redTo (p ^^^ q) j = redTo p j ^^^ redTo q j := by
  induction j with
  | zero => rfl
  | succ j ih => simp only [redTo]; rw [ih, redAt_xor]
theorem polyTo_left (a a' b k : Nat) : polyTo (a ^^^ a') b k = polyTo a b k ^^^ polyTo a' b k := by
  induction k with
  | zero => simp [polyTo]
  | succ k ih =>
    simp only [polyTo]; rw [ih]
    by_cases h : b.testBit k
    · simp only [if_pos h]; rw [Nat.shiftLeft_xor_distrib, xor4]
    · simp only [if_neg h, Nat.xor_zero]
theorem polyTo_right (a b b' k : Nat) : polyTo a (b ^^^ b') k = polyTo a b k ^^^ polyTo a b' k := by
  induction k with
  | zero => simp [polyTo]
  | succ k ih => simp only [polyTo]; rw [ih, Nat.testBit_xor, ite_xor, xor4]
theorem poly_mul (a b : Nat) (h : a < 256) (h' : b < 256) : redTo (polyTo a b 8) 7 = mN a b := by
  refine additive_ext (fun b => redTo (polyTo a b 8) 7) (fun b => mN a b) (fun x y _ _ => by rw [polyTo_right, redTo_xor]) (fun x y hx hy => mN_right _ x y) (fun i hi => ?_) b h'
  refine additive_ext (fun a => redTo (polyTo a (2 ^ i) 8) 7) (fun a => mN a (2 ^ i)) (fun x y _ _ => by rw [polyTo_left, redTo_xor]) (fun x y hx hy => mN_left x y _ hx hy) (fun j hj => ?_) a h
  exact Nat.eq_of_beq_eq_true (allB_spec 8 (fun j => Nat.beq (redTo (polyTo (2 ^ j) (2 ^ i) 8) 7) (mN (2 ^ j) (2 ^ i))) (allB_spec 8 (fun i => allB 8 fun j => Nat.beq (redTo (polyTo (2 ^ j) (2 ^ i) 8) 7) (mN (2 ^ j) (2 ^ i))) (by decide +kernel) i hi) j hj)
theorem xor_lt16 {a b : Nat} (h : a < 65536) (h' : b < 65536) : a ^^^ b < 65536 := Nat.xor_lt_two_pow (n := 16) h h'
theorem shift_lt (a k : Nat) (h : a < 256) (hk : k < 8) : a <<< k < 32768 := by
  rw [Nat.shiftLeft_eq]
  have : 2 ^ k ≤ 2 ^ 7 := Nat.pow_le_pow_right (by omega) (by omega)
  calc a * 2 ^ k ≤ 255 * 2 ^ 7 := Nat.mul_le_mul (by omega) this
    _ < 32768 := by omega
theorem polyTo_lt (a b k : Nat) (h : a < 256) (hk : k ≤ 8) : polyTo a b k < 65536 := by
  induction k with
  | zero => simp [polyTo]
  | succ k ih =>
    simp only [polyTo]
    refine xor_lt16 (ih (by omega)) ?_
    split
    · have := shift_lt a k h (by omega); omega
    · omega
theorem shift285_lt (k : Nat) (h : k ≤ 14) : 285 <<< (k - 8) < 65536 := by
  rw [Nat.shiftLeft_eq]
  have : 2 ^ (k - 8) ≤ 2 ^ 6 := Nat.pow_le_pow_right (by omega) (by omega)
  calc 285 * 2 ^ (k - 8) ≤ 285 * 2 ^ 6 := Nat.mul_le_mul (by omega) this
    _ < 65536 := by omega
theorem redTo_lt (p j : Nat) (h : p < 65536) : redTo p j < 65536 := by
  induction j with
  | zero => exact h
  | succ j ih =>
    simp only [redTo]; unfold redAt; split
    · exact xor_lt16 ih (shift285_lt _ (by omega))
    · exact ih
end F
end Go.Proofs.Ytamkahjdedomlaa
