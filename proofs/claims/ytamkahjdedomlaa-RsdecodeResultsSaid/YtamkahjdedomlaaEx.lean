/-
  The walks of gf256.reduce and Exp.
-/
import Derived.Test.YtamkahjdedomlaaPw
namespace Go.Proofs.Ytamkahjdedomlaa
open Go.RowKit
set_option linter.unusedVariables false

theorem u8z (a : UInt8) (h : a ≠ 0) : ((a.toNat : Int) == 0) = false := beq_eq_false_iff_ne.2 (fun e => h (UInt8.toNat_inj.1 (by show a.toNat = 0; omega)))

set_option maxRecDepth 100000 in
theorem reduce_any (n : Int) (h1 : -9223372036854775808 ≤ n) (h2 : n ≤ 9223372036854775807) (w : World) : Calls Try.prog 47 #[.int .i64 n] w fun e w' => e = .returned (.int .i64 (F.red n)) ∧ w = w' := by
  obtain ⟨r, hr⟩ : ∃ r, F.red n = r := ⟨_, rfl⟩
  rw [hr]
  have hr2 : (n % 255) = (r : Int) := by unfold F.red at hr; omega
  have hrl : r < 255 := by omega
  clear hr
  rcases (show (0 ≤ n) ∨ (n < 0 ∧ r ≠ 0) ∨ (n < 0 ∧ r = 0) by omega) with h0 | ⟨h0, hz⟩ | ⟨h0, hz⟩
  · have HR := Lib.hid hr2
    clear hr2
    go_enter Try.func47, Try.ntmps47
    go_wp2
    go_ret
    have := HR.out
    exact ⟨ret_i64 (by omega), rfl⟩
  · have ht := F.tmod_neg n r hr2 h0 (by omega)
    clear hr2
    go_enter Try.func47, Try.ntmps47
    go_wp2
    go_ret
    exact ⟨ret_i64 (by omega), rfl⟩
  · subst hz
    have ht := F.tmod_nil n hr2 h0
    clear hr2
    go_enter Try.func47, Try.ntmps47
    go_wp2
    go_ret
    exact ⟨ret_i64 rfl, rfl⟩
theorem exp_any (n : Int) (h1 : -9223372036854775808 ≤ n) (h2 : n ≤ 9223372036854775807) (w : World) : Calls Try.prog 27 #[.int .i64 n] w fun e w' => e = .returned (.int .u8 (F.expB (F.red n)).toNat) ∧ Below w.heap.size w w' := by
  have hl := F.red_lt n
  go_enter Try.func27, Try.ntmps27
  go_wp2_with (first
    | (go_at_call 47; refine (reduce_any _ h1 h2 _).mono ?_; rintro e w' ⟨rfl, rfl⟩)
    | (go_at_call 46; refine (power_any 2 (F.red n) (by omega) _).mono ?_; rintro e w' ⟨rfl, hb⟩))
  go_ret
  exact ⟨rfl, hb⟩
end Go.Proofs.Ytamkahjdedomlaa
