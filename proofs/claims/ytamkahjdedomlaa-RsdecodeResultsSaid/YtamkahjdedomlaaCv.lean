/-
  Products of sequences over the field, values of polynomials, how many roots one can have. No program in sight.
-/
import Derived.Test.YtamkahjdedomlaaSum
namespace Go.Proofs.Ytamkahjdedomlaa
set_option linter.unusedVariables false
open F (sumN pow inv)

theorem conv_comm (f g : Nat → F) (n : Nat) : conv f g n = conv g f n := by
  unfold conv
  rw [F.sumN_rev]
  refine F.sumN_congr fun i hi => ?_
  rw [show n + 1 - 1 - i = n - i by omega, show n - (n - i) = i by omega, F.mul_comm]
theorem conv_congr {f f' g g' : Nat → F} (n : Nat) (hf : ∀ k, k ≤ n → f k = f' k) (hg : ∀ k, k ≤ n → g k = g' k) : conv f g n = conv f' g' n := by
  unfold conv
  exact F.sumN_congr fun i hi => by rw [hf i (by omega), hg (n - i) (by omega)]
theorem sumN_if (n i : Nat) (hi : i ≤ n) (f : Nat → F) : sumN (n + 1) (fun j => if i ≤ j then f j else 0) = sumN (n - i + 1) (fun k => f (i + k)) := by
  have e : n + 1 = i + (n - i + 1) := by omega
  rw [e, F.sumN_split, F.sumN_zero (fun j hj => if_neg (by omega)), F.zero_add]
  exact F.sumN_congr fun k _ => if_pos (by omega)
theorem conv_assoc (a b c : Nat → F) (n : Nat) : conv (conv a b) c n = conv a (conv b c) n := by
  have h1 : conv (conv a b) c n = sumN (n + 1) (fun j => sumN (n + 1) (fun i => if i ≤ j then a i * b (j - i) * c (n - j) else 0)) := by
    unfold conv
    refine F.sumN_congr fun j hj => ?_
    rw [← F.sumN_mul_right]
    exact ((F.sumN_more (m := n + 1) (n := j + 1) (by omega) (fun i h1 _ => if_neg (by omega))).trans (F.sumN_congr fun i hi => if_pos (by omega))).symm
  have h2 : conv a (conv b c) n = sumN (n + 1) (fun i => sumN (n + 1) (fun j => if i ≤ j then a i * b (j - i) * c (n - j) else 0)) := by
    unfold conv
    refine F.sumN_congr fun i hi => ?_
    rw [sumN_if n i (by omega), ← F.sumN_mul]
    refine F.sumN_congr fun k hk => ?_
    rw [show i + k - i = k by omega, show n - (i + k) = n - i - k by omega, F.mul_assoc]
  rw [h1, h2, F.sumN_swap]
theorem conv_add (f g h : Nat → F) (n : Nat) : conv (fun k => f k + g k) h n = conv f h n + conv g h n := by
  unfold conv
  rw [← F.sumN_add]
  exact F.sumN_congr fun i _ => F.add_mul _ _ _
theorem conv_smul (a : F) (f h : Nat → F) (n : Nat) : conv (fun k => f k * a) h n = conv f h n * a := by
  unfold conv
  rw [← F.sumN_mul_right]
  refine F.sumN_congr fun i _ => ?_
  show f i * a * h (n - i) = f i * h (n - i) * a
  ac_rfl
/-- The sequence, one place later. -/
def shf (f : Nat → F) : Nat → F
  | 0 => 0
  | k + 1 => f k
theorem conv_shf (f g : Nat → F) (n : Nat) : conv (shf f) g (n + 1) = conv f g n := by
  unfold conv
  rw [F.sumN_left]
  show (0 : F) * _ + _ = _
  rw [F.zero_mul, F.zero_add]
  refine F.sumN_congr fun i _ => ?_
  rw [show n + 1 - (i + 1) = n - i by omega]; rfl
theorem conv_shf_zero (f g : Nat → F) : conv (shf f) g 0 = 0 := by
  show (0 : F) + (0 : F) * _ = 0
  rw [F.zero_mul, F.zero_add]
theorem conv_shf_right (f g : Nat → F) (n : Nat) : conv f (shf g) n = shf (conv f g) n := by
  cases n with
  | zero => rw [conv_comm]; exact conv_shf_zero g f
  | succ n => rw [conv_comm, conv_shf, conv_comm]; rfl
theorem conv_zero_of {f g : Nat → F} {n : Nat} (h : ∀ k, k ≤ n → f k * g (n - k) = 0) : conv f g n = 0 := F.sumN_zero fun i hi => h i (by omega)
theorem conv_deg {f g : Nat → F} {a b : Nat} (hf : ∀ k, a < k → f k = 0) (hg : ∀ k, b < k → g k = 0) (k : Nat) (hk : a + b < k) : conv f g k = 0 :=
  conv_zero_of fun i hi => by
    by_cases c : a < i
    · rw [hf i c, F.zero_mul]
    · rw [hg (k - i) (by omega), F.mul_zero]

/-- The value of a polynomial of degree at most a. -/
def evN (f : Nat → F) (a : Nat) (y : F) : F := sumN (a + 1) fun k => f k * pow y k
theorem evN_more {f : Nat → F} {a b : Nat} (hf : ∀ k, a < k → f k = 0) (hb : a ≤ b) (y : F) : evN f b y = evN f a y :=
  F.sumN_more (by omega) fun k h1 _ => by rw [hf k (by omega), F.zero_mul]
theorem pow_cancel {X : F} (hX : X ≠ 0) (m j : Nat) (h : j ≤ m) : pow X (m - j) = pow X m * pow (inv X) j := by
  have e : pow X m = pow X (m - j) * pow X j := by rw [← F.pow_add]; congr 1; omega
  rw [e, F.mul_assoc, ← F.mul_pow, F.mul_inv hX, F.one_pow, F.mul_one]
theorem inv_ne_zero {X : F} (hX : X ≠ 0) : inv X ≠ 0 := fun e => by
  have := F.mul_inv hX
  rw [e, F.mul_zero] at this
  exact F.one_ne_zero this.symm
theorem geo {f : Nat → F} {a : Nat} {X : F} (hX : X ≠ 0) (hf : ∀ k, a < k → f k = 0) (m : Nat) (hm : a ≤ m) : conv f (pow X) m = pow X m * evN f a (inv X) := by
  unfold conv evN
  rw [F.sumN_more (n := a + 1) (by omega) (fun i h1 _ => by rw [hf i (by omega), F.zero_mul]), ← F.sumN_mul]
  refine F.sumN_congr fun i hi => ?_
  rw [pow_cancel hX m i (by omega)]
  ac_rfl
/-- The value of a product. -/
theorem evN_conv {f g : Nat → F} {a b : Nat} {X : F} (hX : X ≠ 0) (hf : ∀ k, a < k → f k = 0) (hg : ∀ k, b < k → g k = 0) : evN (conv f g) (a + b) (inv X) = evN f a (inv X) * evN g b (inv X) := by
  have h1 := geo hX (conv_deg hf hg) (a + b) (Nat.le_refl _)
  rw [conv_assoc] at h1
  have h2 : conv f (conv g (pow X)) (a + b) = conv f (pow X) (a + b) * evN g b (inv X) := by
    unfold conv
    rw [← F.sumN_mul_right]
    refine F.sumN_congr fun i hi => ?_
    by_cases c : a < i
    · rw [hf i c, F.zero_mul, F.zero_mul, F.zero_mul]
    · have := geo hX hg (a + b - i) (by omega)
      unfold conv at this
      rw [this, F.mul_assoc]
  rw [h2, geo hX hf (a + b) (by omega), F.mul_assoc] at h1
  exact (F.mul_left_cancel (F.pow_ne_zero hX _) h1).symm

/-- Division by (z + x): the quotient's coefficients. -/
def quo (f : Nat → F) (D : Nat) (x : F) (k : Nat) : F := sumN (D - k) fun j => f (k + 1 + j) * pow x j
theorem quo_step (f : Nat → F) (D : Nat) (x : F) (k : Nat) (hk : k < D) : quo f D x k = f (k + 1) + x * quo f D x (k + 1) := by
  unfold quo
  rw [show D - k = (D - (k + 1)) + 1 by omega, F.sumN_left, ← F.sumN_mul]
  congr 1
  · show f (k + 1) * 1 = _; rw [F.mul_one]
  · refine F.sumN_congr fun j _ => ?_
    rw [show k + 1 + (j + 1) = k + 1 + 1 + j by omega]
    show f _ * (pow x j * x) = x * (f _ * pow x j)
    ac_rfl
theorem quo_top (f : Nat → F) (D : Nat) (x : F) (k : Nat) (hk : D ≤ k) : quo f D x k = 0 := by
  unfold quo; rw [show D - k = 0 by omega]; rfl
theorem quo_bottom (f : Nat → F) (D : Nat) (x : F) : evN f D x = f 0 + x * quo f D x 0 := by
  unfold evN quo
  rw [F.sumN_left, ← F.sumN_mul]
  congr 1
  · show f 0 * 1 = _; rw [F.mul_one]
  · refine F.sumN_congr fun j _ => ?_
    rw [show 0 + 1 + j = j + 1 by omega]
    show f _ * (pow x j * x) = x * (f _ * pow x j)
    ac_rfl
theorem add_swap {a b c : F} (h : a = b + c) : b = a + c := by rw [h, F.add_assoc, F.add_self, F.add_zero]
/-- f(y) = f(x) + (y + x) g(y). -/
theorem quo_eval (f : Nat → F) (D : Nat) (hf : ∀ k, D < k → f k = 0) (x y : F) (hx : evN f D x = 0) : evN f D y = (y + x) * evN (quo f D x) (D - 1) y := by
  cases D with
  | zero =>
    have h0 : evN f 0 x = f 0 := by rw [quo_bottom, quo_top f 0 x 0 (Nat.le_refl _), F.mul_zero, F.add_zero]
    have h1 : evN f 0 y = f 0 := by rw [quo_bottom, quo_top f 0 y 0 (Nat.le_refl _), F.mul_zero, F.add_zero]
    rw [h1, ← h0, hx]
    have : evN (quo f 0 x) (0 - 1) y = 0 := by
      show (0 : F) + quo f 0 x 0 * _ = 0
      rw [quo_top f 0 x 0 (Nat.le_refl _), F.zero_mul, F.zero_add]
    rw [this, F.mul_zero]
  | succ D =>
    have hc : ∀ k, f (k + 1) = quo f (D + 1) x k + x * quo f (D + 1) x (k + 1) := by
      intro k
      by_cases h : k < D + 1
      · exact add_swap (quo_step f (D + 1) x k h)
      · rw [hf (k + 1) (by omega), quo_top _ _ _ _ (by omega), quo_top _ _ _ _ (by omega), F.mul_zero, F.add_zero]
    have h0 : f 0 = x * quo f (D + 1) x 0 := by
      have := quo_bottom f (D + 1) x
      rw [hx] at this
      exact F.add_eq_zero.1 this.symm
    rw [Nat.add_sub_cancel]
    have e1 : evN f (D + 1) y = x * quo f (D + 1) x 0 + sumN (D + 1) (fun k => (quo f (D + 1) x k + x * quo f (D + 1) x (k + 1)) * pow y (k + 1)) := by
      unfold evN
      rw [F.sumN_left]
      congr 1
      · show f 0 * 1 = _; rw [F.mul_one, h0]
      · exact F.sumN_congr fun k _ => by rw [hc k]
    have e2 : sumN (D + 1) (fun k => (quo f (D + 1) x k + x * quo f (D + 1) x (k + 1)) * pow y (k + 1)) = y * evN (quo f (D + 1) x) D y + x * sumN (D + 1) (fun k => quo f (D + 1) x (k + 1) * pow y (k + 1)) := by
      unfold evN
      rw [← F.sumN_mul, ← F.sumN_mul, ← F.sumN_add]
      refine F.sumN_congr fun k _ => ?_
      rw [F.add_mul]
      congr 1
      · show _ * (pow y k * y) = _; ac_rfl
      · ac_rfl
    have e3 : evN (quo f (D + 1) x) D y = quo f (D + 1) x 0 + sumN (D + 1) (fun k => quo f (D + 1) x (k + 1) * pow y (k + 1)) := by
      have : evN (quo f (D + 1) x) D y = sumN (D + 1 + 1) (fun k => quo f (D + 1) x k * pow y k) := by
        show _ = _ + quo f (D + 1) x (D + 1) * _
        rw [quo_top _ _ _ _ (Nat.le_refl _), F.zero_mul, F.add_zero]; rfl
      rw [this, F.sumN_left]
      congr 1
      show _ * 1 = _; rw [F.mul_one]
    rw [e1, e2, F.add_mul, e3, F.mul_add x]
    ac_rfl
/-- A polynomial of degree at most D with more than D roots is zero. -/
theorem roots_all (D : Nat) : ∀ (f : Nat → F), (∀ k, D < k → f k = 0) → ∀ (R : List F), R.Nodup → D < R.length → (∀ x ∈ R, evN f D x = 0) → ∀ k, f k = 0 := by
  induction D with
  | zero =>
    intro f hf R hn hl hr k
    cases R with
    | nil => simp at hl
    | cons x R =>
      have h := hr x (by simp)
      rw [quo_bottom, quo_top f 0 x 0 (Nat.le_refl _), F.mul_zero, F.add_zero] at h
      cases k with
      | zero => exact h
      | succ k => exact hf _ (by omega)
  | succ D ih =>
    intro f hf R hn hl hr
    cases R with
    | nil => simp at hl
    | cons x R =>
      rw [List.nodup_cons] at hn
      have hx := hr x (by simp)
      have hq := ih (quo f (D + 1) x) (fun k hk => quo_top _ _ _ _ (by omega)) R hn.2 (by simp at hl; omega) fun y hy => by
        have h1 := hr y (List.mem_cons_of_mem _ hy)
        rw [quo_eval f (D + 1) hf x y hx] at h1
        rcases F.mul_eq_zero.1 h1 with h2 | h2
        · exact absurd (F.add_eq_zero.1 h2 ▸ hy) hn.1
        · exact h2
      intro k
      cases k with
      | zero =>
        have := quo_bottom f (D + 1) x
        rw [hx, hq 0, F.mul_zero, F.add_zero] at this
        exact this.symm
      | succ k =>
        by_cases h : k < D + 1
        · have := quo_step f (D + 1) x k h
          rw [hq k, hq (k + 1), F.mul_zero, F.add_zero] at this
          exact this.symm
        · exact hf _ (by omega)
end Go.Proofs.Ytamkahjdedomlaa
