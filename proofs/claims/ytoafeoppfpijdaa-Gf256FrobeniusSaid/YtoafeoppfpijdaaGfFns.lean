/-
  The walks of gf256.Inv, Div, reduce, Exp, Pow.
-/
import Derived.Test.YtoafeoppfpijdaaGfPow
namespace Go.Proofs.Ytoafeoppfpijdaa
open Go.RowKit
set_option linter.unusedVariables false

theorem u8z (a : UInt8) (h : a ≠ 0) : ((a.toNat : Int) == 0) = false := beq_eq_false_iff_ne.2 (fun e => h (UInt8.toNat_inj.1 (by show a.toNat = 0; omega)))

theorem inv_nz (a : UInt8) (h : a ≠ 0) (w : World) : Calls Try.prog 16 #[.int .u8 a.toNat] w fun e w' => e = .returned (.tuple #[.int .u8 (F.invB a).toNat, .bool true]) ∧ Below w.heap.size w w' := by
  have hz := u8z a h
  go_enter Try.func16, Try.ntmps16
  go_wp2_with (go_at_call 26; refine (power_any a 254 (by omega) _).mono ?_; rintro e w' ⟨rfl, hb⟩)
  go_ret2
  exact ⟨rfl, hb⟩
theorem inv_z (w : World) : Calls Try.prog 16 #[.int .u8 0] w fun e w' => e = .returned (.tuple #[.int .u8 0, .bool false]) ∧ Below w.heap.size w w' := by
  go_enter Try.func16, Try.ntmps16
  go_wp2
  go_ret2
  exact ⟨rfl, Below.refl _ _⟩
theorem div_nz (a b : UInt8) (h : b ≠ 0) (w : World) : Calls Try.prog 17 #[.int .u8 a.toNat, .int .u8 b.toNat] w fun e w' => e = .returned (.tuple #[.int .u8 (F.divB a b).toNat, .bool true]) ∧ Below w.heap.size w w' := by
  go_enter Try.func17, Try.ntmps17
  go_wp2_with (first
    | (go_at_call 16; refine (inv_nz b h _).mono ?_; rintro e w' ⟨rfl, hb⟩)
    | (go_at_call 13; refine (mul_any _ _ _).mono ?_; rintro e w' ⟨rfl, rfl⟩))
  go_ret2
  exact ⟨rfl, hb⟩
theorem mul_zero_any (a : UInt8) (w : World) : Calls Try.prog 13 #[.int .u8 a.toNat, .int .u8 0] w fun e w' => e = .returned (.int .u8 0) ∧ w = w' := by
  have := mul_nat a.toNat 0 a.toNat_lt (by omega) w
  rwa [F.mulN_none] at this
theorem div_z (a : UInt8) (w : World) : Calls Try.prog 17 #[.int .u8 a.toNat, .int .u8 0] w fun e w' => e = .returned (.tuple #[.int .u8 0, .bool false]) ∧ Below w.heap.size w w' := by
  go_enter Try.func17, Try.ntmps17
  go_wp2_with (first
    | (go_at_call 16; refine (inv_z _).mono ?_; rintro e w' ⟨rfl, hb⟩)
    | (go_at_call 13; refine (mul_zero_any _ _).mono ?_; rintro e w' ⟨rfl, rfl⟩))
  go_ret2
  exact ⟨rfl, hb⟩

set_option maxRecDepth 100000 in
theorem reduce_any (n : Int) (h1 : -9223372036854775808 ≤ n) (h2 : n ≤ 9223372036854775807) (w : World) : Calls Try.prog 27 #[.int .i64 n] w fun e w' => e = .returned (.int .i64 (F.red n)) ∧ w = w' := by
  obtain ⟨r, hr⟩ : ∃ r, F.red n = r := ⟨_, rfl⟩
  rw [hr]
  have hr2 : (n % 255) = (r : Int) := by unfold F.red at hr; omega
  have hrl : r < 255 := by omega
  clear hr
  rcases (show (0 ≤ n) ∨ (n < 0 ∧ r ≠ 0) ∨ (n < 0 ∧ r = 0) by omega) with h0 | ⟨h0, hz⟩ | ⟨h0, hz⟩
  · have HR := Lib.hid hr2
    clear hr2
    go_enter Try.func27, Try.ntmps27
    go_wp2
    go_ret
    have := HR.out
    exact ⟨ret_i64 (by omega), rfl⟩
  · have ht := F.tmod_neg n r hr2 h0 (by omega)
    clear hr2
    go_enter Try.func27, Try.ntmps27
    go_wp2
    go_ret
    exact ⟨ret_i64 (by omega), rfl⟩
  · subst hz
    have ht := F.tmod_nil n hr2 h0
    clear hr2
    go_enter Try.func27, Try.ntmps27
    go_wp2
    go_ret
    exact ⟨ret_i64 rfl, rfl⟩
theorem F.red_lt (n : Int) : F.red n < 255 := by unfold F.red; omega

theorem exp_any (n : Int) (h1 : -9223372036854775808 ≤ n) (h2 : n ≤ 9223372036854775807) (w : World) : Calls Try.prog 12 #[.int .i64 n] w fun e w' => e = .returned (.int .u8 (F.expB (F.red n)).toNat) ∧ Below w.heap.size w w' := by
  have hl := F.red_lt n
  go_enter Try.func12, Try.ntmps12
  go_wp2_with (first
    | (go_at_call 27; refine (reduce_any _ h1 h2 _).mono ?_; rintro e w' ⟨rfl, rfl⟩)
    | (go_at_call 26; refine (power_any 2 (F.red n) (by omega) _).mono ?_; rintro e w' ⟨rfl, hb⟩))
  go_ret
  exact ⟨rfl, hb⟩
theorem pow_nz (a : UInt8) (ha : a ≠ 0) (n : Int) (h1 : -9223372036854775808 ≤ n) (h2 : n ≤ 9223372036854775807) (w : World) :
    Calls Try.prog 23 #[.int .u8 a.toNat, .int .i64 n] w fun e w' => e = .returned (.tuple #[.int .u8 (F.powB a (F.red n)).toNat, .bool true]) ∧ Below w.heap.size w w' := by
  have hl := F.red_lt n
  have hz := u8z a ha
  by_cases h : n = 0
  · subst h
    go_enter Try.func23, Try.ntmps23
    go_wp2
    go_ret2
    exact ⟨rfl, Below.refl _ _⟩
  · have hn : (n == 0) = false := beq_eq_false_iff_ne.2 h
    clear h
    go_enter Try.func23, Try.ntmps23
    go_wp2_with (first
      | (go_at_call 27; refine (reduce_any _ h1 h2 _).mono ?_; rintro e w' ⟨rfl, rfl⟩)
      | (go_at_call 26; refine (power_any a (F.red n) (by omega) _).mono ?_; rintro e w' ⟨rfl, hb⟩))
    go_ret2
    exact ⟨rfl, hb⟩
theorem pow_z (n : Int) (w : World) :
    Calls Try.prog 23 #[.int .u8 0, .int .i64 n] w fun e w' => e = .returned (.tuple #[.int .u8 (if n = 0 then 1 else 0), .bool (decide (0 ≤ n))]) ∧ Below w.heap.size w w' := by
  by_cases h : n = 0
  · subst h
    go_enter Try.func23, Try.ntmps23
    go_wp2
    go_ret2
    exact ⟨rfl, Below.refl _ _⟩
  · have hn : (n == 0) = false := beq_eq_false_iff_ne.2 h
    have HH := Lib.hid h
    clear h
    go_enter Try.func23, Try.ntmps23
    go_wp2
    go_ret2
    have := HH.out
    exact ⟨ret_ub (by first | rfl | rw [if_neg this]) (by rw [decide_eq_decide]; omega), Below.refl _ _⟩
end Go.Proofs.Ytoafeoppfpijdaa
