/-
  Plain facts of layer 5 on bytes: sums of exponents, division, equations.
-/
import Derived.Test.YtoafeoppfpijdaaGfFns
namespace Go.Proofs.Ytoafeoppfpijdaa
namespace F
theorem red_sum (x y : Int) : (red x + red y) % 255 = red (x + y) := by unfold red; omega
theorem exp_red_add (x y : Int) : expB (red (x + y)) = mulB (expB (red x)) (expB (red y)) := by
  have h : exp (red x + red y) = exp (red x) * exp (red y) := exp_add _ _
  rw [exp_mod, red_sum] at h
  exact congrArg byte h
theorem red_255 (x : Int) : red (x + 255) = red x := by unfold red; omega
theorem expB_ne (k : Nat) : expB k ≠ 0 := exp_ne_zero k
theorem red_nat (k : Nat) (h : k < 255) : red (k : Int) = k := by unfold red; omega
theorem exp_red_log (a : UInt8) (ha : a ≠ 0) : expB (red (logB a : Int)) = a := by
  rw [red_nat _ (logB_lt a ha)]; exact exp_log (a := mk a) ha
theorem pow_red_add (a : UInt8) (ha : a ≠ 0) (x y : Int) : powB a (red (x + y)) = mulB (powB a (red x)) (powB a (red y)) := by
  have h : pow (mk a) (red x + red y) = pow (mk a) (red x) * pow (mk a) (red y) := pow_add _ _ _
  rw [pow_mod (a := mk a) ha, red_sum] at h
  exact congrArg byte h
theorem div_mul (a b : UInt8) (hb : b ≠ 0) : divB (mulB a b) b = a := by
  have h : (mk a * mk b) * inv (mk b) = mk a := by rw [F.mul_assoc, mul_inv (a := mk b) hb, F.mul_one]
  exact congrArg byte h
theorem mul_div (a b : UInt8) (ha : a ≠ 0) : mulB a (divB b a) = b := by
  have h : mk a * (mk b * inv (mk a)) = mk b := by rw [← F.mul_assoc, F.mul_comm (mk a), F.mul_assoc, mul_inv (a := mk a) ha, F.mul_one]
  exact congrArg byte h
theorem linear (a b c : UInt8) (ha : a ≠ 0) : mulB a c ^^^ b = 0 ↔ c = divB b a := by
  have h1 : (mk a * mk c + mk b = 0) ↔ (mk a * mk c = mk b) := add_eq_zero
  constructor
  · intro h
    have h2 := h1.1 h
    have h3 : mk a * mk c = mk a * mk (divB b a) := h2.trans (mul_div a b ha).symm
    exact mul_left_cancel (a := mk a) ha h3
  · intro h
    refine h1.2 ?_
    rw [h]; exact mul_div a b ha
theorem quad_eq (a b c : F) : c * c + (a + b) * c + a * b = (c + a) * (c + b) := by
  rw [F.mul_add, F.add_mul, F.add_mul, F.add_mul, F.mul_comm c b]
  ac_rfl
theorem quad (a b c : UInt8) : mulB c c ^^^ mulB (a ^^^ b) c ^^^ mulB a b = 0 ↔ c = a ∨ c = b := by
  have h : (mk c * mk c + (mk a + mk b) * mk c + mk a * mk b = 0) ↔ (mk c + mk a) * (mk c + mk b) = 0 := by rw [quad_eq]
  refine h.trans ?_
  rw [mul_eq_zero, add_eq_zero, add_eq_zero]; exact Iff.rfl
theorem frob (a b : UInt8) : mulB (a ^^^ b) (a ^^^ b) = mulB a a ^^^ mulB b b := by
  have h : (mk a + mk b) * (mk a + mk b) = mk a * mk a + mk b * mk b := by
    rw [F.mul_add, F.add_mul, F.add_mul, F.mul_comm (mk b) (mk a)]
    have : mk a * mk a + mk a * mk b + (mk a * mk b + mk b * mk b) = mk a * mk a + (mk a * mk b + mk a * mk b) + mk b * mk b := by ac_rfl
    rw [this, add_self, F.add_zero]
  exact congrArg byte h
end F
end Go.Proofs.Ytoafeoppfpijdaa
