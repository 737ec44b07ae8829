/-
  The field of 256 elements: sum and product of bytes, powers of the generator, with the field's laws. No program in sight.
-/
import Derived.WalkKit
namespace Go.Proofs.Ytamkahjdedomlaa

/-- The elements: bytes, with '+' the exclusive or and '*' the product. -/
def F := UInt8
namespace F
def mk (x : UInt8) : F := x
def byte (x : F) : UInt8 := x
def add (a b : F) : F := mk (a.byte ^^^ b.byte)
def dblN (n : Nat) : Nat := if 128 ≤ n then (2 * n) ^^^ 285 else 2 * n
def mulN : Nat → Nat → Nat → Nat
  | 0, _, _ => 0
  | f + 1, a, b => (if b % 2 = 1 then a else 0) ^^^ mulN f (dblN a) (b / 2)
def mulB (a b : UInt8) : UInt8 := UInt8.ofNat (mulN 8 a.toNat b.toNat)
def mul (a b : F) : F := mk (mulB a.byte b.byte)
instance : Add F := ⟨add⟩
instance : Mul F := ⟨mul⟩
instance : Zero F := ⟨mk 0⟩
instance : One F := ⟨mk 1⟩
instance : DecidableEq F := inferInstanceAs (DecidableEq UInt8)
instance : Inhabited F := ⟨0⟩

/-! ### On numbers below 256, by the kernel's reckoning. -/
def allB (n : Nat) (p : Nat → Bool) : Bool := Nat.rec true (fun k r => p k && r) n
theorem allB_spec (n : Nat) (p : Nat → Bool) (h : allB n p = true) : ∀ k, k < n → p k = true := by
  induction n with
  | zero => intro k hk; omega
  | succ n ih =>
    have h' : (p n && allB n p) = true := h
    rw [Bool.and_eq_true] at h'
    intro k hk
    by_cases e : k = n
    · subst e; exact h'.1
    · exact ih h'.2 k (by omega)

theorem dbl_lt : ∀ a, a < 256 → dblN a < 256 := fun a h => of_decide_eq_true (allB_spec 256 (fun a => decide (dblN a < 256)) (by decide +kernel) a h)
theorem dbl_xor : ∀ a, a < 256 → ∀ b, b < 256 → dblN (a ^^^ b) = dblN a ^^^ dblN b := fun a h b h' =>
  Nat.eq_of_beq_eq_true (allB_spec 256 (fun b => Nat.beq (dblN (a ^^^ b)) (dblN a ^^^ dblN b)) (allB_spec 256 (fun a => allB 256 fun b => Nat.beq (dblN (a ^^^ b)) (dblN a ^^^ dblN b)) (by decide +kernel) a h) b h')
theorem xor_lt {a b : Nat} (h : a < 256) (h' : b < 256) : a ^^^ b < 256 := Nat.xor_lt_two_pow (n := 8) h h'
theorem mulN_lt (f : Nat) : ∀ a b, a < 256 → mulN f a b < 256 := by
  induction f with
  | zero => intro a b h; exact Nat.zero_lt_of_lt h
  | succ f ih =>
    intro a b h
    have h1 := ih (dblN a) (b / 2) (dbl_lt a h)
    simp only [mulN]
    split
    · exact xor_lt h h1
    · exact xor_lt (by omega) h1
theorem xor4 (a b c d : Nat) : (a ^^^ b) ^^^ (c ^^^ d) = (a ^^^ c) ^^^ (b ^^^ d) := by
  rw [Nat.xor_assoc, Nat.xor_assoc, ← Nat.xor_assoc b, Nat.xor_comm b c, Nat.xor_assoc c]
theorem mulN_left (f : Nat) : ∀ a a' b, a < 256 → a' < 256 → mulN f (a ^^^ a') b = mulN f a b ^^^ mulN f a' b := by
  induction f with
  | zero => intros; simp [mulN]
  | succ f ih =>
    intro a a' b h h'
    simp only [mulN]
    rw [dbl_xor a h a' h', ih _ _ _ (dbl_lt a h) (dbl_lt a' h')]
    by_cases e : b % 2 = 1
    · simp only [if_pos e]; exact xor4 _ _ _ _
    · simp only [if_neg e, Nat.zero_xor]
theorem odd_xor (b b' : Nat) : ((b ^^^ b') % 2 = 1) ↔ ¬ ((b % 2 = 1) ↔ (b' % 2 = 1)) := by
  have h := Nat.xor_mod_two_pow (a := b) (b := b') (n := 1)
  rw [show (2 : Nat) ^ 1 = 2 from rfl] at h
  rw [h]
  rcases Nat.mod_two_eq_zero_or_one b with e | e <;> rcases Nat.mod_two_eq_zero_or_one b' with e' | e' <;> rw [e, e'] <;> decide
theorem mulN_right (f : Nat) : ∀ a b b', mulN f a (b ^^^ b') = mulN f a b ^^^ mulN f a b' := by
  induction f with
  | zero => intros; simp [mulN]
  | succ f ih =>
    intro a b b'
    simp only [mulN]
    rw [Nat.xor_div_two, ih]
    have h := odd_xor b b'
    by_cases e : b % 2 = 1 <;> by_cases e' : b' % 2 = 1
    · rw [if_neg (by rw [h]; simp [e, e']), if_pos e, if_pos e']
      rw [Nat.zero_xor, xor4, Nat.xor_self, Nat.zero_xor]
    · rw [if_pos (by rw [h]; simp [e]; omega), if_pos e, if_neg e']
      rw [Nat.zero_xor, Nat.xor_assoc]
    · rw [if_pos (by rw [h]; simp [e']; omega), if_neg e, if_pos e']
      rw [Nat.zero_xor, ← Nat.xor_assoc, ← Nat.xor_assoc, Nat.xor_comm a]
    · rw [if_neg (by rw [h]; simp [e, e']), if_neg e, if_neg e']
      simp only [Nat.zero_xor]

/-- Two additive functions that agree at the eight powers of two agree below 256. -/
theorem bits_of (b : Nat) (h : b < 256) : ∃ c : Nat → Nat, (∀ i, c i = 0 ∨ c i = 2 ^ i) ∧ b = c 0 ^^^ (c 1 ^^^ (c 2 ^^^ (c 3 ^^^ (c 4 ^^^ (c 5 ^^^ (c 6 ^^^ c 7)))))) := by
  refine ⟨fun i => if b.testBit i then 2 ^ i else 0, fun i => by by_cases e : b.testBit i <;> simp [e], ?_⟩
  exact Nat.eq_of_beq_eq_true (allB_spec 256 (fun b => Nat.beq b ((if b.testBit 0 then 2 ^ 0 else 0) ^^^ ((if b.testBit 1 then 2 ^ 1 else 0) ^^^ ((if b.testBit 2 then 2 ^ 2 else 0) ^^^ ((if b.testBit 3 then 2 ^ 3 else 0) ^^^ ((if b.testBit 4 then 2 ^ 4 else 0) ^^^
    ((if b.testBit 5 then 2 ^ 5 else 0) ^^^ ((if b.testBit 6 then 2 ^ 6 else 0) ^^^ (if b.testBit 7 then 2 ^ 7 else 0))))))))) (by decide +kernel) b h)
theorem additive_ext (f g : Nat → Nat) (hf : ∀ a b, a < 256 → b < 256 → f (a ^^^ b) = f a ^^^ f b) (hg : ∀ a b, a < 256 → b < 256 → g (a ^^^ b) = g a ^^^ g b)
    (h : ∀ i, i < 8 → f (2 ^ i) = g (2 ^ i)) : ∀ b, b < 256 → f b = g b := by
  have f0 : f 0 = 0 := by have := hf 0 0 (by omega) (by omega); rw [Nat.xor_self, Nat.xor_self] at this; exact this
  have g0 : g 0 = 0 := by have := hg 0 0 (by omega) (by omega); rw [Nat.xor_self, Nat.xor_self] at this; exact this
  intro b hb
  obtain ⟨c, hc, rfl⟩ := bits_of b hb
  have hlt : ∀ i, i < 8 → c i < 256 := by
    intro i hi
    have : 2 ^ i < 2 ^ 8 := Nat.pow_lt_pow_right (by omega) hi
    rcases hc i with e | e <;> rw [e] <;> omega
  have he : ∀ i, i < 8 → f (c i) = g (c i) := by
    intro i hi
    rcases hc i with e | e <;> rw [e]
    · rw [f0, g0]
    · exact h i hi
  have l7 := hlt 7 (by omega)
  have l6 := xor_lt (hlt 6 (by omega)) l7
  have l5 := xor_lt (hlt 5 (by omega)) l6
  have l4 := xor_lt (hlt 4 (by omega)) l5
  have l3 := xor_lt (hlt 3 (by omega)) l4
  have l2 := xor_lt (hlt 2 (by omega)) l3
  have l1 := xor_lt (hlt 1 (by omega)) l2
  rw [hf _ _ (hlt 0 (by omega)) l1, hf _ _ (hlt 1 (by omega)) l2, hf _ _ (hlt 2 (by omega)) l3, hf _ _ (hlt 3 (by omega)) l4, hf _ _ (hlt 4 (by omega)) l5, hf _ _ (hlt 5 (by omega)) l6, hf _ _ (hlt 6 (by omega)) l7,
    hg _ _ (hlt 0 (by omega)) l1, hg _ _ (hlt 1 (by omega)) l2, hg _ _ (hlt 2 (by omega)) l3, hg _ _ (hlt 3 (by omega)) l4, hg _ _ (hlt 4 (by omega)) l5, hg _ _ (hlt 5 (by omega)) l6, hg _ _ (hlt 6 (by omega)) l7,
    he 0 (by omega), he 1 (by omega), he 2 (by omega), he 3 (by omega), he 4 (by omega), he 5 (by omega), he 6 (by omega), he 7 (by omega)]

def mN (a b : Nat) : Nat := mulN 8 a b
theorem mN_lt {a b : Nat} (h : a < 256) : mN a b < 256 := mulN_lt 8 a b h
theorem mN_left (a a' b : Nat) (h : a < 256) (h' : a' < 256) : mN (a ^^^ a') b = mN a b ^^^ mN a' b := mulN_left 8 a a' b h h'
theorem mN_right (a b b' : Nat) : mN a (b ^^^ b') = mN a b ^^^ mN a b' := mulN_right 8 a b b'
theorem mN_comm (a b : Nat) (h : a < 256) (h' : b < 256) : mN a b = mN b a := by
  refine additive_ext (fun b => mN a b) (fun b => mN b a) (fun x y _ _ => mN_right a x y) (fun x y hx hy => mN_left x y a hx hy) (fun i hi => ?_) b h'
  refine additive_ext (fun a => mN a (2 ^ i)) (fun a => mN (2 ^ i) a) (fun x y hx hy => mN_left x y _ hx hy) (fun x y _ _ => mN_right _ x y) (fun j hj => ?_) a h
  exact Nat.eq_of_beq_eq_true (allB_spec 8 (fun j => Nat.beq (mN (2 ^ j) (2 ^ i)) (mN (2 ^ i) (2 ^ j))) (allB_spec 8 (fun i => allB 8 fun j => Nat.beq (mN (2 ^ j) (2 ^ i)) (mN (2 ^ i) (2 ^ j))) (by decide +kernel) i hi) j hj)
theorem mN_assoc (a b c : Nat) (h : a < 256) (h' : b < 256) (h'' : c < 256) : mN (mN a b) c = mN a (mN b c) := by
  refine additive_ext (fun c => mN (mN a b) c) (fun c => mN a (mN b c)) (fun x y _ _ => mN_right _ x y) (fun x y hx hy => by simp only [mN_right]) (fun i hi => ?_) c h''
  refine additive_ext (fun b => mN (mN a b) (2 ^ i)) (fun b => mN a (mN b (2 ^ i))) (fun x y hx hy => by simp only [mN_right]; exact mN_left _ _ _ (mN_lt h) (mN_lt h))
    (fun x y hx hy => by rw [mN_left x y _ hx hy, mN_right]) (fun j hj => ?_) b h'
  refine additive_ext (fun a => mN (mN a (2 ^ j)) (2 ^ i)) (fun a => mN a (mN (2 ^ j) (2 ^ i))) (fun x y hx hy => by rw [mN_left x y _ hx hy, mN_left _ _ _ (mN_lt hx) (mN_lt hy)])
    (fun x y hx hy => mN_left x y _ hx hy) (fun k hk => ?_) a h
  exact Nat.eq_of_beq_eq_true (allB_spec 8 (fun k => Nat.beq (mN (mN (2 ^ k) (2 ^ j)) (2 ^ i)) (mN (2 ^ k) (mN (2 ^ j) (2 ^ i))))
    (allB_spec 8 (fun j => allB 8 fun k => Nat.beq (mN (mN (2 ^ k) (2 ^ j)) (2 ^ i)) (mN (2 ^ k) (mN (2 ^ j) (2 ^ i))))
      (allB_spec 8 (fun i => allB 8 fun j => allB 8 fun k => Nat.beq (mN (mN (2 ^ k) (2 ^ j)) (2 ^ i)) (mN (2 ^ k) (mN (2 ^ j) (2 ^ i)))) (by decide +kernel) i hi) j hj) k hk)
theorem mN_one (a : Nat) (h : a < 256) : mN a 1 = a := Nat.eq_of_beq_eq_true (allB_spec 256 (fun a => Nat.beq (mN a 1) a) (by decide +kernel) a h)
theorem mN_zero (a : Nat) : mN a 0 = 0 := by have := mN_right a 0 0; rw [Nat.xor_self, Nat.xor_self] at this; exact this

/-! ### The field's laws. -/
theorem byte_lt (a : F) : a.byte.toNat < 256 := a.byte.toNat_lt
theorem ext {a b : F} (h : a.byte.toNat = b.byte.toNat) : a = b := UInt8.toNat_inj.1 h
theorem byte_add (a b : F) : (a + b).byte = a.byte ^^^ b.byte := rfl
theorem nat_add (a b : F) : (a + b).byte.toNat = a.byte.toNat ^^^ b.byte.toNat := by rw [byte_add, UInt8.toNat_xor]
theorem nat_mul (a b : F) : (a * b).byte.toNat = mN a.byte.toNat b.byte.toNat := by
  show (UInt8.ofNat (mulN 8 a.byte.toNat b.byte.toNat)).toNat = _
  exact UInt8.toNat_ofNat_of_lt' (mulN_lt 8 _ _ (byte_lt a))
theorem nat_zero : (0 : F).byte.toNat = 0 := rfl
theorem nat_one : (1 : F).byte.toNat = 1 := rfl
protected theorem add_comm (a b : F) : a + b = b + a := UInt8.xor_comm _ _
protected theorem add_assoc (a b c : F) : a + b + c = a + (b + c) := UInt8.xor_assoc _ _ _
theorem add_self (a : F) : a + a = 0 := UInt8.xor_self
protected theorem add_zero (a : F) : a + 0 = a := UInt8.xor_zero
protected theorem zero_add (a : F) : 0 + a = a := by rw [F.add_comm, F.add_zero]
protected theorem mul_comm (a b : F) : a * b = b * a := ext (by rw [nat_mul, nat_mul, mN_comm _ _ (byte_lt a) (byte_lt b)])
protected theorem mul_assoc (a b c : F) : a * b * c = a * (b * c) := ext (by rw [nat_mul, nat_mul, nat_mul, nat_mul, mN_assoc _ _ _ (byte_lt a) (byte_lt b) (byte_lt c)])
protected theorem mul_one (a : F) : a * 1 = a := ext (by rw [nat_mul, nat_one, mN_one _ (byte_lt a)])
protected theorem one_mul (a : F) : 1 * a = a := by rw [F.mul_comm, F.mul_one]
protected theorem mul_zero (a : F) : a * 0 = 0 := ext (by rw [nat_mul, nat_zero, mN_zero])
protected theorem zero_mul (a : F) : 0 * a = 0 := by rw [F.mul_comm, F.mul_zero]
protected theorem mul_add (a b c : F) : a * (b + c) = a * b + a * c := ext (by rw [nat_mul, nat_add, nat_add, nat_mul, nat_mul, mN_right])
protected theorem add_mul (a b c : F) : (a + b) * c = a * c + b * c := by rw [F.mul_comm, F.mul_add, F.mul_comm c a, F.mul_comm c b]
instance : Std.Commutative (α := F) (· + ·) := ⟨F.add_comm⟩
instance : Std.Associative (α := F) (· + ·) := ⟨F.add_assoc⟩
instance : Std.Commutative (α := F) (· * ·) := ⟨F.mul_comm⟩
instance : Std.Associative (α := F) (· * ·) := ⟨F.mul_assoc⟩
theorem add_eq_zero {a b : F} : a + b = 0 ↔ a = b := by
  constructor
  · intro h
    have : a + b + b = b := by rw [h, F.zero_add]
    rwa [F.add_assoc, add_self, F.add_zero] at this
  · intro h; rw [h, add_self]
theorem add_left_cancel {a b c : F} (h : a + b = a + c) : b = c := by
  have : a + (a + b) = a + (a + c) := by rw [h]
  rwa [← F.add_assoc, ← F.add_assoc, add_self, F.zero_add, F.zero_add] at this

/-! ### Powers. -/
def pow (a : F) : Nat → F
  | 0 => 1
  | n + 1 => pow a n * a
theorem pow_add (a : F) (m n : Nat) : pow a (m + n) = pow a m * pow a n := by
  induction n with
  | zero => exact (F.mul_one _).symm
  | succ n ih => show pow a (m + n) * a = pow a m * (pow a n * a); rw [ih, F.mul_assoc]
theorem pow_two_mul (a : F) (n : Nat) : pow a (2 * n) = pow (a * a) n := by
  induction n with
  | zero => rfl
  | succ n ih => rw [show 2 * (n + 1) = 2 * n + 1 + 1 from rfl]; show pow a (2 * n) * a * a = pow (a * a) n * (a * a); rw [ih, F.mul_assoc]
theorem pow_half (a : F) (n : Nat) : pow a n = (if n % 2 = 1 then a else 1) * pow (a * a) (n / 2) := by
  rw [← pow_two_mul]
  split
  · conv => lhs; rw [show n = 2 * (n / 2) + 1 by omega]
    show pow a _ * a = _; rw [F.mul_comm]
  · rw [F.one_mul]; congr 1; omega
theorem pow_one (a : F) : pow a 1 = a := F.one_mul a
theorem one_pow (n : Nat) : pow 1 n = 1 := by
  induction n with
  | zero => rfl
  | succ n ih => show pow 1 n * 1 = 1; rw [ih, F.mul_one]
theorem mul_pow (a b : F) (n : Nat) : pow (a * b) n = pow a n * pow b n := by
  induction n with
  | zero => exact (F.mul_one 1).symm
  | succ n ih => show pow (a * b) n * (a * b) = pow a n * a * (pow b n * b); rw [ih]; ac_rfl
theorem pow_mul (a : F) (m n : Nat) : pow a (m * n) = pow (pow a m) n := by
  induction n with
  | zero => rfl
  | succ n ih => rw [Nat.mul_succ, pow_add, ih]; rfl
theorem zero_pow (n : Nat) (h : n ≠ 0) : pow 0 n = 0 := by
  cases n with
  | zero => exact absurd rfl h
  | succ n => exact F.mul_zero _

/-! ### Inverses: the power 254, reckoned for all 255 elements. -/
def powN (a : Nat) : Nat → Nat
  | 0 => 1
  | n + 1 => mN (powN a n) a
theorem powN_eq (a : F) (n : Nat) : (pow a n).byte.toNat = powN a.byte.toNat n := by
  induction n with
  | zero => rfl
  | succ n ih => show (pow a n * a).byte.toNat = _; rw [nat_mul, ih]; rfl
/-- a^255 by squarings, for the kernel. -/
def pow255 (a : Nat) : Nat :=
  let a2 := mN a a; let a3 := mN a2 a; let a6 := mN a3 a3; let a12 := mN a6 a6; let a15 := mN a12 a3
  let a30 := mN a15 a15; let a60 := mN a30 a30; let a120 := mN a60 a60; let a240 := mN a120 a120; mN a240 a15
theorem pow255_eq (a : F) : (pow a 255).byte.toNat = pow255 a.byte.toNat := by
  have e2 : pow a 2 = a * a := by show 1 * a * a = _; rw [F.one_mul]
  have e3 : pow a 3 = a * a * a := by show pow a 2 * a = _; rw [e2]
  have e6 : pow a 6 = pow a 3 * pow a 3 := pow_add a 3 3
  have e12 : pow a 12 = pow a 6 * pow a 6 := pow_add a 6 6
  have e15 : pow a 15 = pow a 12 * pow a 3 := pow_add a 12 3
  have e30 : pow a 30 = pow a 15 * pow a 15 := pow_add a 15 15
  have e60 : pow a 60 = pow a 30 * pow a 30 := pow_add a 30 30
  have e120 : pow a 120 = pow a 60 * pow a 60 := pow_add a 60 60
  have e240 : pow a 240 = pow a 120 * pow a 120 := pow_add a 120 120
  have e255 : pow a 255 = pow a 240 * pow a 15 := pow_add a 240 15
  rw [e255, nat_mul, e240, nat_mul, e120, nat_mul, e60, nat_mul, e30, nat_mul, e15, nat_mul, e12, nat_mul, e6, nat_mul, e3, nat_mul, nat_mul]
  rfl
theorem pow_order {a : F} (h : a ≠ 0) : pow a 255 = 1 := by
  refine ext ?_
  rw [pow255_eq]
  have h0 : a.byte.toNat ≠ 0 := fun e => h (ext e)
  have := allB_spec 256 (fun n => Nat.beq n 0 || Nat.beq (pow255 n) 1) (by decide +kernel) _ (byte_lt a)
  rw [Bool.or_eq_true] at this
  rcases this with e | e
  · exact absurd (Nat.eq_of_beq_eq_true e) h0
  · exact Nat.eq_of_beq_eq_true e
def inv (a : F) : F := pow a 254
theorem mul_inv {a : F} (h : a ≠ 0) : a * inv a = 1 := by rw [F.mul_comm]; exact pow_order h
theorem inv_zero : inv 0 = 0 := zero_pow 254 (by omega)
theorem one_ne_zero : (1 : F) ≠ 0 := fun h => by have := congrArg (fun x : F => x.byte.toNat) h; exact absurd this (by decide)
theorem mul_eq_zero {a b : F} : a * b = 0 ↔ a = 0 ∨ b = 0 := by
  constructor
  · intro h
    by_cases e : a = 0
    · exact Or.inl e
    · right
      have : inv a * (a * b) = 0 := by rw [h, F.mul_zero]
      rwa [← F.mul_assoc, F.mul_comm (inv a), mul_inv e, F.one_mul] at this
  · rintro (h | h) <;> rw [h]
    · exact F.zero_mul _
    · exact F.mul_zero _
theorem mul_ne_zero {a b : F} (h : a ≠ 0) (h' : b ≠ 0) : a * b ≠ 0 := fun e => (mul_eq_zero.1 e).elim h h'
theorem mul_left_cancel {a b c : F} (h : a ≠ 0) (e : a * b = a * c) : b = c := by
  have : inv a * (a * b) = inv a * (a * c) := by rw [e]
  rwa [← F.mul_assoc, ← F.mul_assoc, F.mul_comm (inv a), mul_inv h, F.one_mul, F.one_mul] at this
theorem inv_unique {a x : F} (h : a * x = 1) : x = inv a := by
  have ha : a ≠ 0 := fun e => by rw [e, F.zero_mul] at h; exact one_ne_zero h.symm
  exact mul_left_cancel ha (h.trans (mul_inv ha).symm)
theorem pow_ne_zero {a : F} (h : a ≠ 0) (n : Nat) : pow a n ≠ 0 := by
  induction n with
  | zero => exact one_ne_zero
  | succ n ih => exact mul_ne_zero ih h
theorem pow_mod {a : F} (h : a ≠ 0) (n : Nat) : pow a n = pow a (n % 255) := by
  conv => lhs; rw [← Nat.mod_add_div n 255]
  rw [pow_add, pow_mul, pow_order h, one_pow, F.mul_one]

/-! ### The generator and its logarithm. -/
def gen : F := mk 2
theorem gen_ne_zero : gen ≠ 0 := fun h => by have := congrArg (fun x : F => x.byte.toNat) h; exact absurd this (by decide)
def exp (n : Nat) : F := pow gen n
theorem dbl_eq (a : Nat) (h : a < 256) : mN a 2 = dblN a := Nat.eq_of_beq_eq_true (allB_spec 256 (fun a => Nat.beq (mN a 2) (dblN a)) (by decide +kernel) a h)
def itN : Nat → Nat → Nat
  | 0, x => x
  | k + 1, x => itN k (dblN x)
theorem itN_succ (k : Nat) : ∀ x, itN (k + 1) x = dblN (itN k x) := by
  induction k with
  | zero => intro x; rfl
  | succ k ih => intro x; exact ih (dblN x)
theorem exp_nat (k : Nat) : (exp k).byte.toNat = itN k 1 := by
  induction k with
  | zero => rfl
  | succ k ih => rw [itN_succ, ← ih, ← dbl_eq _ (byte_lt _)]; exact nat_mul _ _
def logS : Nat → Nat → Nat → Nat
  | 0, _, _ => 0
  | f + 1, x, a => if Nat.beq x a then 0 else logS f (dblN x) a + 1
theorem logS_spec (f : Nat) : ∀ x a, (logS f x a < f → itN (logS f x a) x = a) ∧ ∀ j, j < logS f x a → itN j x ≠ a := by
  induction f with
  | zero => intro x a; exact ⟨fun h => absurd h (by omega), fun j h => by simp [logS] at h⟩
  | succ f ih =>
    intro x a
    simp only [logS]
    by_cases e : Nat.beq x a = true
    · rw [if_pos e]; exact ⟨fun _ => Nat.eq_of_beq_eq_true e, fun j h => by omega⟩
    · rw [if_neg e]
      refine ⟨fun h => (ih _ _).1 (by omega), fun j h => ?_⟩
      cases j with
      | zero => intro e'; exact e (by rw [show x = a from e']; exact Nat.beq_refl a)
      | succ j => exact (ih _ _).2 j (by omega)
def log (a : F) : Nat := logS 255 1 a.byte.toNat
theorem log_lt {a : F} (h : a ≠ 0) : log a < 255 := by
  have h0 : a.byte.toNat ≠ 0 := fun e => h (ext e)
  have := allB_spec 256 (fun n => Nat.beq n 0 || decide (logS 255 1 n < 255)) (by decide +kernel) _ (byte_lt a)
  rw [Bool.or_eq_true] at this
  rcases this with e | e
  · exact absurd (Nat.eq_of_beq_eq_true e) h0
  · exact of_decide_eq_true e
theorem exp_log {a : F} (h : a ≠ 0) : exp (log a) = a := ext (by rw [exp_nat]; exact (logS_spec 255 1 _).1 (log_lt h))
theorem exp_ne_of_lt_log {a : F} (j : Nat) (h : j < log a) : exp j ≠ a := fun e => (logS_spec 255 1 a.byte.toNat).2 j h (by rw [← exp_nat, e])
theorem exp_ne_zero (n : Nat) : exp n ≠ 0 := pow_ne_zero gen_ne_zero n
theorem exp_add (m n : Nat) : exp (m + n) = exp m * exp n := pow_add _ _ _
theorem exp_mod (n : Nat) : exp n = exp (n % 255) := pow_mod gen_ne_zero n
theorem exp_ne_one (k : Nat) (h : 0 < k) (h' : k < 255) : exp k ≠ 1 := by
  intro e
  have h1 : logS 254 2 1 = 254 := by decide +kernel
  have := (logS_spec 254 2 1).2 (k - 1) (by omega)
  apply this
  have h2 := exp_nat k
  rw [e, show k = k - 1 + 1 by omega] at h2
  exact h2.symm
theorem exp_inj {i j : Nat} (hi : i < 255) (hj : j < 255) (h : exp i = exp j) : i = j := by
  have key : ∀ i j, i < j → j < 255 → exp i ≠ exp j := by
    intro i j h1 h2 e
    have : exp i * exp (j - i) = exp i * 1 := by rw [← exp_add, show i + (j - i) = j by omega, ← e, F.mul_one]
    exact exp_ne_one (j - i) (by omega) (by omega) (mul_left_cancel (exp_ne_zero i) this)
  by_cases a : i < j
  · exact absurd h (key i j a hj)
  · by_cases b : j < i
    · exact absurd h.symm (key j i b hi)
    · omega
theorem log_unique {a : F} {k : Nat} (hk : k < 255) (h : exp k = a) : log a = k := by
  have ha : a ≠ 0 := by rw [← h]; exact exp_ne_zero k
  exact exp_inj (log_lt ha) hk ((exp_log ha).trans h.symm)
end F
end Go.Proofs.Ytamkahjdedomlaa
