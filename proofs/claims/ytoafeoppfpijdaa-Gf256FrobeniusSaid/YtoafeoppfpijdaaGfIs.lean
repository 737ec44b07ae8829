/-
  The contracts of layer 5 over numbers that are names: what a law's walk uses. And the walk of the laws' examples.
-/
import Derived.Test.YtoafeoppfpijdaaGfFns
namespace Go.Proofs.Ytoafeoppfpijdaa
open Go.RowKit
set_option linter.unusedVariables false

/-- The byte a is the number x. -/
def IsB (a : UInt8) (x : Int) : Prop := (a.toNat : Int) = x
theorem nm (a : UInt8) : ∃ x : Int, IsB a x := ⟨_, rfl⟩
theorem IsB.same {a : UInt8} {x y : Int} (h : IsB a x) (h' : IsB a y) : x = y := Eq.trans (Eq.symm h) h'
theorem IsB.inj {a b : UInt8} {x : Int} (h : IsB a x) (h' : IsB b x) : a = b := UInt8.toNat_inj.1 (by unfold IsB at h h'; omega)
theorem IsB.of {x : Int} (h : (Lit.int .u8 x).wf = true) : ∃ a, IsB a x := by
  have := bounds_u8 h
  exact ⟨UInt8.ofNat x.toNat, by unfold IsB; rw [UInt8.toNat_ofNat']; omega⟩
theorem IsB.bd {a : UInt8} {x : Int} (h : IsB a x) : 0 ≤ x ∧ x ≤ 255 := by have := a.toNat_lt; unfold IsB at h; omega
theorem IsB.ne {a : UInt8} {x : Int} (h : IsB a x) (ha : a ≠ 0) : (x == 0) = false := by unfold IsB at h; rw [← h]; exact u8z a ha
theorem IsB.ne' {a : UInt8} {x : Int} (h : IsB a x) (ha : a ≠ 0) : (x != 0) = true := by rw [bne, h.ne ha]; rfl
theorem IsB.eqb {a b : UInt8} {x y : Int} (h : IsB a x) (h' : IsB b y) : (x == y) = decide (a = b) := by
  rw [Bool.eq_iff_iff, beq_iff_eq, decide_eq_true_iff]
  constructor
  · intro e; subst e; exact h.inj h'
  · intro e; subst e; exact h.same h'
theorem IsB.zero : IsB 0 0 := rfl
theorem IsB.one : IsB 1 1 := rfl

theorem add_is (a b : UInt8) {x y z : Int} (hx : IsB a x) (hy : IsB b y) (hz : IsB (a ^^^ b) z) (w : World) : Calls Try.prog 15 #[.int .u8 x, .int .u8 y] w fun e w' => e = .returned (.int .u8 z) ∧ w = w' := by
  unfold IsB at hx hy hz; subst hx hy hz; exact add_any a b w
theorem mul_is (a b : UInt8) {x y z : Int} (hx : IsB a x) (hy : IsB b y) (hz : IsB (F.mulB a b) z) (w : World) : Calls Try.prog 13 #[.int .u8 x, .int .u8 y] w fun e w' => e = .returned (.int .u8 z) ∧ w = w' := by
  unfold IsB at hx hy hz; subst hx hy hz; exact mul_any a b w
theorem inv_is (a : UInt8) {x z : Int} (hx : IsB a x) (hz : IsB (F.invB a) z) (h : a ≠ 0) (w : World) : Calls Try.prog 16 #[.int .u8 x] w fun e w' => e = .returned (.tuple #[.int .u8 z, .bool true]) ∧ Below w.heap.size w w' := by
  unfold IsB at hx hz; subst hx hz; exact inv_nz a h w
theorem div_is (a b : UInt8) {x y z : Int} (hx : IsB a x) (hy : IsB b y) (hz : IsB (F.divB a b) z) (h : b ≠ 0) (w : World) : Calls Try.prog 17 #[.int .u8 x, .int .u8 y] w fun e w' => e = .returned (.tuple #[.int .u8 z, .bool true]) ∧ Below w.heap.size w w' := by
  unfold IsB at hx hy hz; subst hx hy hz; exact div_nz a b h w
theorem div0_is (a : UInt8) {x : Int} (hx : IsB a x) (w : World) : Calls Try.prog 17 #[.int .u8 x, .int .u8 0] w fun e w' => e = .returned (.tuple #[.int .u8 0, .bool false]) ∧ Below w.heap.size w w' := by
  unfold IsB at hx; subst hx; exact div_z a w
theorem exp_is (n : Int) {z : Int} (h1 : -9223372036854775808 ≤ n) (h2 : n ≤ 9223372036854775807) (hz : IsB (F.expB (F.red n)) z) (w : World) : Calls Try.prog 12 #[.int .i64 n] w fun e w' => e = .returned (.int .u8 z) ∧ Below w.heap.size w w' := by
  unfold IsB at hz; subst hz; exact exp_any n h1 h2 w
theorem log_is (a : UInt8) {x k : Int} (hx : IsB a x) (h : a ≠ 0) (hk : Hid ((F.logB a : Int) = k)) (w : World) : Calls Try.prog 14 #[.int .u8 x] w fun e w' => e = .returned (.tuple #[.int .i64 k, .bool true]) ∧ w = w' := by
  have hk' := hk.out
  unfold IsB at hx; subst hx; rw [← hk']; exact log_nz a h w
theorem pow_is (a : UInt8) (n : Int) {x z : Int} (hx : IsB a x) (h : a ≠ 0) (h1 : -9223372036854775808 ≤ n) (h2 : n ≤ 9223372036854775807) (hz : IsB (F.powB a (F.red n)) z) (w : World) :
    Calls Try.prog 23 #[.int .u8 x, .int .i64 n] w fun e w' => e = .returned (.tuple #[.int .u8 z, .bool true]) ∧ Below w.heap.size w w' := by
  unfold IsB at hx hz; subst hx hz; exact pow_nz a h n h1 h2 w

theorem alive_any (w : World) : Calls Try.prog 11 #[] w fun e w' => e = .returned (.bool true) ∧ Below w.heap.size w w' := by
  go_enter Try.func11, Try.ntmps11
  go_wp2_with fail
  refine (inv_is 2 (z := 142) rfl (by unfold IsB; decide +kernel) (by decide) _).mono ?_
  rintro e w1 ⟨rfl, hb1⟩
  go_wp2_with fail
  refine (log_is 3 (k := 25) rfl (by decide) (by unfold Hid; decide +kernel) _).mono ?_
  rintro e w2 ⟨rfl, rfl⟩
  go_wp2_with fail
  refine (mul_is 2 128 (z := 29) rfl rfl (by unfold IsB; decide +kernel) _).mono ?_
  rintro e w2 ⟨rfl, rfl⟩
  go_wp2_with fail
  refine (exp_is 8 (z := 29) (by omega) (by omega) (by unfold IsB; decide +kernel) _).mono ?_
  rintro e w3 ⟨rfl, hb3⟩
  go_wp2_with fail
  go_ret
  exact ⟨rfl, bt hb1 hb3⟩

theorem radd_is (a b : UInt8) {x y z : Int} (hx : IsB a x) (hy : IsB b y) (hz : IsB (a ^^^ b) z) (w : World) : Calls Try.prog 20 #[.int .u8 x, .int .u8 y] w fun e w' => e = .returned (.int .u8 z) ∧ w = w' := by
  unfold IsB at hx hy hz; subst hx hy hz; exact radd_any a b w
theorem rmul_is (a b : UInt8) {x y z : Int} (hx : IsB a x) (hy : IsB b y) (hz : IsB (F.mulB a b) z) (w : World) : Calls Try.prog 21 #[.int .u8 x, .int .u8 y] w fun e w' => e = .returned (.int .u8 z) ∧ w = w' := by
  unfold IsB at hx hy hz; subst hx hy hz; exact rmul_any a b w
theorem rinv_is (a : UInt8) {x z : Int} (hx : IsB a x) (hz : IsB (F.invB a) z) (h : a ≠ 0) (w : World) : Calls Try.prog 18 #[.int .u8 x] w fun e w' => e = .returned (.tuple #[.int .u8 z, .bool true]) ∧ w = w' := by
  unfold IsB at hx hz; subst hx hz; exact rinv_nz a h w
theorem rdiv_is (a b : UInt8) {x y z : Int} (hx : IsB a x) (hy : IsB b y) (hz : IsB (F.divB a b) z) (h : b ≠ 0) (w : World) : Calls Try.prog 19 #[.int .u8 x, .int .u8 y] w fun e w' => e = .returned (.tuple #[.int .u8 z, .bool true]) ∧ w = w' := by
  unfold IsB at hx hy hz; subst hx hy hz; exact rdiv_nz a b h w
theorem rdiv0_is (a : UInt8) {x : Int} (hx : IsB a x) (w : World) : Calls Try.prog 19 #[.int .u8 x, .int .u8 0] w fun e w' => e = .returned (.tuple #[.int .u8 0, .bool false]) ∧ w = w' := by
  unfold IsB at hx; subst hx; exact rdiv_z a w
theorem rexp_is (n : Int) {z : Int} (h1 : -9223372036854775808 ≤ n) (h2 : n ≤ 9223372036854775807) (hz : IsB (F.expB (F.red n)) z) (w : World) : Calls Try.prog 25 #[.int .i64 n] w fun e w' => e = .returned (.int .u8 z) ∧ w = w' := by
  unfold IsB at hz; subst hz; exact rexp_any n h1 h2 w
theorem rlog_is (a : UInt8) {x k : Int} (hx : IsB a x) (h : a ≠ 0) (hk : Hid ((F.logB a : Int) = k)) (w : World) : Calls Try.prog 22 #[.int .u8 x] w fun e w' => e = .returned (.tuple #[.int .i64 k, .bool true]) ∧ w = w' := by
  have hk' := hk.out
  unfold IsB at hx; subst hx; rw [← hk']; exact rlog_nz a h w
theorem rpow_is (a : UInt8) (n : Int) {x z : Int} (hx : IsB a x) (h : a ≠ 0) (h1 : -9223372036854775808 ≤ n) (h2 : n ≤ 9223372036854775807) (hz : IsB (F.powB a (F.red n)) z) (w : World) :
    Calls Try.prog 24 #[.int .u8 x, .int .i64 n] w fun e w' => e = .returned (.tuple #[.int .u8 z, .bool true]) ∧ w = w' := by
  unfold IsB at hx hz; subst hx hz; exact rpow_nz a h n h1 h2 w
theorem pow0_is (n : Int) {z : Int} {t : Bool} (hz : Hid ((if n = 0 then (1 : Int) else 0) = z)) (ht : Hid (decide (0 ≤ n) = t)) (w : World) :
    Calls Try.prog 23 #[.int .u8 0, .int .i64 n] w fun e w' => e = .returned (.tuple #[.int .u8 z, .bool t]) ∧ Below w.heap.size w w' := by
  rw [← hz.out, ← ht.out]; exact pow_z n w
theorem rpow0_is (n : Int) {z : Int} {t : Bool} (hz : Hid ((if n = 0 then (1 : Int) else 0) = z)) (ht : Hid (decide (0 ≤ n) = t)) (w : World) :
    Calls Try.prog 24 #[.int .u8 0, .int .i64 n] w fun e w' => e = .returned (.tuple #[.int .u8 z, .bool t]) ∧ w = w' := by
  rw [← hz.out, ← ht.out]; exact rpow_z n w
theorem pow2_is (a : UInt8) {x z : Int} (hx : IsB a x) (hz : IsB (F.mulB a a) z) (w : World) :
    Calls Try.prog 23 #[.int .u8 x, .int .i64 2] w fun e w' => e = .returned (.tuple #[.int .u8 z, .bool true]) ∧ Below w.heap.size w w' := by
  by_cases h : a = 0
  · subst h
    obtain rfl : x = 0 := hx.same IsB.zero
    obtain rfl : z = 0 := hz.same (by unfold IsB; decide +kernel)
    exact pow0_is 2 rfl rfl w
  · have e : F.powB a (F.red 2) = F.mulB a a := by
      have h2 : F.pow (F.mk a) 2 = F.mk a * F.mk a := by show 1 * F.mk a * F.mk a = _; rw [F.one_mul]
      exact congrArg F.byte h2
    exact pow_is a 2 hx h (by omega) (by omega) (by rw [e]; exact hz) w
theorem pow256_is (a : UInt8) {x : Int} (hx : IsB a x) (w : World) :
    Calls Try.prog 23 #[.int .u8 x, .int .i64 256] w fun e w' => e = .returned (.tuple #[.int .u8 x, .bool true]) ∧ Below w.heap.size w w' := by
  by_cases h : a = 0
  · subst h
    obtain rfl : x = 0 := hx.same IsB.zero
    exact pow0_is 256 rfl rfl w
  · have e : F.powB a (F.red 256) = a := congrArg F.byte (F.pow_one (F.mk a))
    exact pow_is a 256 hx h (by omega) (by omega) (by rw [e]; exact hx) w
end Go.Proofs.Ytoafeoppfpijdaa
