/-
  The walks of gf256.Inv and Div.
-/
import Derived.Test.YtamkahjdedomlaaEx
namespace Go.Proofs.Ytamkahjdedomlaa
open Go.RowKit
set_option linter.unusedVariables false

theorem inv_nz (a : UInt8) (h : a ≠ 0) (w : World) : Calls Try.prog 53 #[.int .u8 a.toNat] w fun e w' => e = .returned (.tuple #[.int .u8 (F.invB a).toNat, .bool true]) ∧ Below w.heap.size w w' := by
  have hz := u8z a h
  go_enter Try.func53, Try.ntmps53
  go_wp2_with (go_at_call 46; refine (power_any a 254 (by omega) _).mono ?_; rintro e w' ⟨rfl, hb⟩)
  go_ret2
  exact ⟨rfl, hb⟩
theorem inv_z (w : World) : Calls Try.prog 53 #[.int .u8 0] w fun e w' => e = .returned (.tuple #[.int .u8 0, .bool false]) ∧ Below w.heap.size w w' := by
  go_enter Try.func53, Try.ntmps53
  go_wp2
  go_ret2
  exact ⟨rfl, Below.refl _ _⟩
theorem div_nz (a b : UInt8) (h : b ≠ 0) (w : World) : Calls Try.prog 31 #[.int .u8 a.toNat, .int .u8 b.toNat] w fun e w' => e = .returned (.tuple #[.int .u8 (F.divB a b).toNat, .bool true]) ∧ Below w.heap.size w w' := by
  go_enter Try.func31, Try.ntmps31
  go_wp2_with (first
    | (go_at_call 53; refine (inv_nz b h _).mono ?_; rintro e w' ⟨rfl, hb⟩)
    | (go_at_call 32; refine (mul_any _ _ _).mono ?_; rintro e w' ⟨rfl, rfl⟩))
  go_ret2
  exact ⟨rfl, hb⟩
theorem mul_zero_any (a : UInt8) (w : World) : Calls Try.prog 32 #[.int .u8 a.toNat, .int .u8 0] w fun e w' => e = .returned (.int .u8 0) ∧ w = w' := by
  have := mul_nat a.toNat 0 a.toNat_lt (by omega) w
  rwa [F.mulN_none] at this
theorem div_z (a : UInt8) (w : World) : Calls Try.prog 31 #[.int .u8 a.toNat, .int .u8 0] w fun e w' => e = .returned (.tuple #[.int .u8 0, .bool false]) ∧ Below w.heap.size w w' := by
  go_enter Try.func31, Try.ntmps31
  go_wp2_with (first
    | (go_at_call 53; refine (inv_z _).mono ?_; rintro e w' ⟨rfl, hb⟩)
    | (go_at_call 32; refine (mul_zero_any _ _).mono ?_; rintro e w' ⟨rfl, rfl⟩))
  go_ret2
  exact ⟨rfl, hb⟩

end Go.Proofs.Ytamkahjdedomlaa
