/-
  Bytes as elements of the field: inverse, quotient, powers, exponents, on bytes and their numbers. No program in sight.
-/
import Derived.Test.YtamkahjdedomlaaGfRefPlain
namespace Go.Proofs.Ytamkahjdedomlaa
set_option linter.unusedVariables false

namespace F
def invB (a : UInt8) : UInt8 := (inv (mk a)).byte
def divB (a b : UInt8) : UInt8 := mulB a (invB b)
def powB (a : UInt8) (n : Nat) : UInt8 := (pow (mk a) n).byte
def expB (n : Nat) : UInt8 := (exp n).byte
theorem mulB_nat (a b : UInt8) : (mulB a b).toNat = mN a.toNat b.toNat := UInt8.toNat_ofNat_of_lt' (mulN_lt 8 _ _ a.toNat_lt)
theorem invB_hit (a : UInt8) (x : Nat) (hx : x < 256) (h : mN a.toNat x = 1) : ((invB a).toNat : Int) = x := by
  have : mk (UInt8.ofNat x) = inv (mk a) := inv_unique (ext (by
    rw [nat_mul]; show mN a.toNat (UInt8.ofNat x).toNat = 1
    rw [UInt8.toNat_ofNat_of_lt' hx]; exact h))
  have h2 : (invB a).toNat = x := by
    show (inv (mk a)).byte.toNat = x
    rw [← this]; exact UInt8.toNat_ofNat_of_lt' hx
  rw [h2]
theorem hit_ne (a : UInt8) (x : Nat) (h : mN a.toNat x = 1) : a ≠ 0 := by
  intro e; subst e
  have h0 : mN (0 : UInt8).toNat x = 0 := by
    show mN 0 x = 0
    have := mN_left 0 0 x (by omega) (by omega)
    rw [Nat.xor_self, Nat.xor_self] at this; exact this
  rw [h0] at h; exact absurd h (by omega)
theorem no_hit (a : UInt8) (h : ∀ y, 1 ≤ y → y < 256 → mN a.toNat y ≠ 1) : a = 0 := by
  by_cases e : a = 0
  · exact e
  · exfalso
    have h1 : mk a * inv (mk a) = 1 := mul_inv e
    have h2 : mN a.toNat (inv (mk a)).byte.toNat = 1 := by
      have := congrArg (fun x : F => x.byte.toNat) h1
      simp only [nat_mul] at this
      exact this
    refine h _ ?_ (byte_lt _) h2
    by_cases z : (inv (mk a)).byte.toNat = 0
    · rw [z, mN_zero] at h2; exact absurd h2 (by omega)
    · omega
end F

/-- The exponent from 0 to 254 that is equivalent to n. -/
def F.red (n : Int) : Nat := (n % 255).toNat
theorem F.powN_succ (a k : Nat) : F.powN a (k + 1) = F.mN (F.powN a k) a := rfl
theorem F.powN_lt (a k : Nat) (h : a < 256) : F.powN a k < 256 := by
  induction k with
  | zero => show 1 < 256; omega
  | succ k ih => exact F.mN_lt ih
theorem F.expB_nat (k : Nat) : (F.expB k).toNat = F.powN 2 k := F.powN_eq F.gen k
theorem F.powB_nat (a : UInt8) (k : Nat) : (F.powB a k).toNat = F.powN a.toNat k := F.powN_eq (F.mk a) k

theorem F.tmod_neg (n r : Int) (h : n % 255 = r) (h0 : n < 0) (h1 : r ≠ 0) : n.tmod 255 = r - 255 := by
  rw [Int.tmod_eq_emod, if_neg (by intro hc; rcases hc with hc | hc <;> omega)]; simp; omega
theorem F.tmod_nil (n : Int) (h : n % 255 = 0) (h0 : n < 0)  : n.tmod 255 = 0 := by
  rw [Int.tmod_eq_emod, if_pos (by right; omega)]; simp; omega

theorem F.red_lt (n : Int) : F.red n < 255 := by unfold F.red; omega

namespace F
def logB (a : UInt8) : Nat := log (mk a)
theorem itN_lt (k : Nat) : ∀ x, x < 256 → itN k x < 256 := by
  induction k with
  | zero => intro x h; exact h
  | succ k ih => intro x h; exact ih _ (dbl_lt x h)
theorem it_exp (k : Nat) : itN k 1 = (exp k).byte.toNat := (exp_nat k).symm
theorem pow_it (k : Nat) : powN 2 k = itN k 1 := by rw [← expB_nat]; exact exp_nat k
theorem log_hit (a : UInt8) (k : Nat) (hk : k < 255) (h : itN k 1 = a.toNat) : logB a = k ∧ a ≠ 0 := by
  have e : exp k = mk a := ext (by rw [exp_nat]; exact h)
  refine ⟨log_unique hk e, fun z => ?_⟩
  exact exp_ne_zero k (e.trans (by rw [z]; rfl))
theorem log_miss (a : UInt8) (ha : a ≠ 0) (k : Nat) (h : k < logB a) : itN k 1 ≠ a.toNat := by
  intro e
  exact exp_ne_of_lt_log (a := mk a) k h (ext (by rw [exp_nat]; exact e))
theorem log_end (a : UInt8) (ha : a ≠ 0) : itN (logB a) 1 = a.toNat := by
  rw [it_exp]; show (exp (log (mk a))).byte.toNat = _; rw [exp_log (a := mk a) ha]; rfl
theorem logB_lt (a : UInt8) (ha : a ≠ 0) : logB a < 255 := log_lt (a := mk a) ha
theorem red_sum (x y : Int) : (red x + red y) % 255 = red (x + y) := by unfold red; omega
theorem exp_red_add (x y : Int) : expB (red (x + y)) = mulB (expB (red x)) (expB (red y)) := by
  have h : exp (red x + red y) = exp (red x) * exp (red y) := exp_add _ _
  rw [exp_mod, red_sum] at h
  exact congrArg byte h
theorem red_255 (x : Int) : red (x + 255) = red x := by unfold red; omega
theorem expB_ne (k : Nat) : expB k ≠ 0 := exp_ne_zero k
theorem red_nat (k : Nat) (h : k < 255) : red (k : Int) = k := by unfold red; omega
theorem exp_red_log (a : UInt8) (ha : a ≠ 0) : expB (red (logB a : Int)) = a := by
  rw [red_nat _ (logB_lt a ha)]; exact exp_log (a := mk a) ha
theorem pow_red_add (a : UInt8) (ha : a ≠ 0) (x y : Int) : powB a (red (x + y)) = mulB (powB a (red x)) (powB a (red y)) := by
  have h : pow (mk a) (red x + red y) = pow (mk a) (red x) * pow (mk a) (red y) := pow_add _ _ _
  rw [pow_mod (a := mk a) ha, red_sum] at h
  exact congrArg byte h
theorem div_mul (a b : UInt8) (hb : b ≠ 0) : divB (mulB a b) b = a := by
  have h : (mk a * mk b) * inv (mk b) = mk a := by rw [F.mul_assoc, mul_inv (a := mk b) hb, F.mul_one]
  exact congrArg byte h
theorem mul_div (a b : UInt8) (ha : a ≠ 0) : mulB a (divB b a) = b := by
  have h : mk a * (mk b * inv (mk a)) = mk b := by rw [← F.mul_assoc, F.mul_comm (mk a), F.mul_assoc, mul_inv (a := mk a) ha, F.mul_one]
  exact congrArg byte h
theorem linear (a b c : UInt8) (ha : a ≠ 0) : mulB a c ^^^ b = 0 ↔ c = divB b a := by
  have h1 : (mk a * mk c + mk b = 0) ↔ (mk a * mk c = mk b) := add_eq_zero
  constructor
  · intro h
    have h2 := h1.1 h
    have h3 : mk a * mk c = mk a * mk (divB b a) := h2.trans (mul_div a b ha).symm
    exact mul_left_cancel (a := mk a) ha h3
  · intro h
    refine h1.2 ?_
    rw [h]; exact mul_div a b ha
theorem quad_eq (a b c : F) : c * c + (a + b) * c + a * b = (c + a) * (c + b) := by
  rw [F.mul_add, F.add_mul, F.add_mul, F.add_mul, F.mul_comm c b]
  ac_rfl
theorem quad (a b c : UInt8) : mulB c c ^^^ mulB (a ^^^ b) c ^^^ mulB a b = 0 ↔ c = a ∨ c = b := by
  have h : (mk c * mk c + (mk a + mk b) * mk c + mk a * mk b = 0) ↔ (mk c + mk a) * (mk c + mk b) = 0 := by rw [quad_eq]
  refine h.trans ?_
  rw [mul_eq_zero, add_eq_zero, add_eq_zero]; exact Iff.rfl
theorem frob (a b : UInt8) : mulB (a ^^^ b) (a ^^^ b) = mulB a a ^^^ mulB b b := by
  have h : (mk a + mk b) * (mk a + mk b) = mk a * mk a + mk b * mk b := by
    rw [F.mul_add, F.add_mul, F.add_mul, F.mul_comm (mk b) (mk a)]
    have : mk a * mk a + mk a * mk b + (mk a * mk b + mk b * mk b) = mk a * mk a + (mk a * mk b + mk a * mk b) + mk b * mk b := by ac_rfl
    rw [this, add_self, F.add_zero]
  exact congrArg byte h
end F
end Go.Proofs.Ytamkahjdedomlaa
