/-
  The walk of the law Gf256Division, call by call.
-/
import Derived.Test.YtoafeoppfpijdaaGfIs
import Derived.Test.YtoafeoppfpijdaaGfPlain
namespace Go.Proofs.Ytoafeoppfpijdaa
open Go.RowKit
set_option linter.unusedVariables false

set_option maxRecDepth 100000 in
set_option maxHeartbeats 2000000 in
theorem gf256Division.walk (x : Int) (wx : (Lit.int .u8 x).wf = true) (y : Int) (wy : (Lit.int .u8 y).wf = true) (w : World) :
    Calls Try.prog 5 #[.int .u8 x, .int .u8 y] w fun e w' => e = .returned (.bool true) ∧ Below w.heap.size w w' := by
  obtain ⟨a, ha⟩ := IsB.of wx
  obtain ⟨b, hb⟩ := IsB.of wy
  clear wx wy
  by_cases hy : b = 0
  · subst hy
    obtain rfl : y = 0 := hb.same IsB.zero
    have hp : IsB (F.mulB a 0) 0 := by rw [show F.mulB a 0 = 0 from F.mul_zero a]; exact IsB.zero
    obtain ⟨t, ht⟩ : ∃ t, (x == 0) = t := ⟨_, rfl⟩
    cases t
    · go_enter Try.func5, Try.ntmps5
      go_wp2_with fail
      refine (alive_any _).mono ?_; rintro e w1 ⟨rfl, hb1⟩
      go_wp2_with fail
      refine (mul_is a 0 ha IsB.zero hp _).mono ?_; rintro e w' ⟨rfl, rfl⟩
      go_wp2_with fail
      refine (div0_is 0 IsB.zero _).mono ?_; rintro e w2 ⟨rfl, hb2⟩
      go_wp2_with fail
      go_ret
      exact ⟨ret_bool (by simp), bt (hb1) hb2⟩
    · go_enter Try.func5, Try.ntmps5
      go_wp2_with fail
      refine (alive_any _).mono ?_; rintro e w1 ⟨rfl, hb1⟩
      go_wp2_with fail
      refine (mul_is a 0 ha IsB.zero hp _).mono ?_; rintro e w' ⟨rfl, rfl⟩
      go_wp2_with fail
      refine (div0_is 0 IsB.zero _).mono ?_; rintro e w2 ⟨rfl, hb2⟩
      go_wp2_with fail
      go_ret
      exact ⟨ret_bool (by simp), bt (hb1) hb2⟩
  · have hy0 := hb.ne hy
    have hy1 := hb.ne' hy
    obtain ⟨p, hp⟩ := nm (F.mulB a b)
    have hq : IsB (F.divB (F.mulB a b) b) x := by rw [F.div_mul a b hy]; exact ha
    have hpz : (p == 0) = decide (a = 0) := by
      rw [hp.eqb IsB.zero, Bool.eq_iff_iff, decide_eq_true_iff, decide_eq_true_iff]
      exact ⟨fun h => (F.mul_eq_zero.1 h).resolve_right hy, fun h => by rw [h]; exact F.zero_mul b⟩
    have hxz : (x == 0) = decide (a = 0) := by rw [ha.eqb IsB.zero]
    obtain ⟨t, ht⟩ : ∃ t, decide (a = 0) = t := ⟨_, rfl⟩
    rw [ht] at hpz hxz
    clear ht
    cases t
    · go_enter Try.func5, Try.ntmps5
      go_wp2_with fail
      refine (alive_any _).mono ?_; rintro e w1 ⟨rfl, hb1⟩
      go_wp2_with fail
      refine (mul_is a b ha hb hp _).mono ?_; rintro e w' ⟨rfl, rfl⟩
      go_wp2_with fail
      refine (div_is _ b hp hb hq hy _).mono ?_; rintro e w2 ⟨rfl, hb2⟩
      go_wp2_with fail
      go_ret
      exact ⟨ret_bool (by simp), bt (hb1) hb2⟩
    · go_enter Try.func5, Try.ntmps5
      go_wp2_with fail
      refine (alive_any _).mono ?_; rintro e w1 ⟨rfl, hb1⟩
      go_wp2_with fail
      refine (mul_is a b ha hb hp _).mono ?_; rintro e w' ⟨rfl, rfl⟩
      go_wp2_with fail
      refine (div_is _ b hp hb hq hy _).mono ?_; rintro e w2 ⟨rfl, hb2⟩
      go_wp2_with fail
      go_ret
      exact ⟨ret_bool (by simp), bt (hb1) hb2⟩
end Go.Proofs.Ytoafeoppfpijdaa
