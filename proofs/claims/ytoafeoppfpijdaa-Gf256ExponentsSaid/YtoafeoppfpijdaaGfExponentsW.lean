/-
  The walk of the law Gf256Exponents, call by call.
-/
import Derived.Test.YtoafeoppfpijdaaGfIs
import Derived.Test.YtoafeoppfpijdaaGfPlain
namespace Go.Proofs.Ytoafeoppfpijdaa
open Go.RowKit
set_option linter.unusedVariables false

set_option maxRecDepth 100000 in
set_option maxHeartbeats 2000000 in
theorem gf256Exponents.walk (m : Int) (wm : (Lit.int .i32 m).wf = true) (n : Int) (wn : (Lit.int .i32 n).wf = true) (x : Int) (wx : (Lit.int .u8 x).wf = true) (w : World) :
    Calls Try.prog 3 #[.int .i32 m, .int .i32 n, .int .u8 x] w fun e w' => e = .returned (.bool true) ∧ Below w.heap.size w w' := by
  obtain ⟨a, ha⟩ := IsB.of wx
  have bm := bounds_i32 wm
  have bn := bounds_i32 wn
  clear wx wm wn
  obtain ⟨em, hem⟩ := nm (F.expB (F.red m))
  obtain ⟨en, hen⟩ := nm (F.expB (F.red n))
  obtain ⟨es, hes⟩ := nm (F.expB (F.red (m + n)))
  have hes2 : IsB (F.mulB (F.expB (F.red m)) (F.expB (F.red n))) es := by rw [← F.exp_red_add]; exact hes
  have hem2 : IsB (F.expB (F.red (m + 255))) em := by rw [F.red_255]; exact hem
  have he0 := hem.ne (F.expB_ne (F.red m))
  by_cases hz : a = 0
  · obtain rfl : x = 0 := (show IsB 0 x by rw [← hz]; exact ha).same IsB.zero
    go_enter Try.func3, Try.ntmps3
    go_wp2_with fail
    refine (alive_any _).mono ?_; rintro e w1 ⟨rfl, hb1⟩
    go_wp2_with fail
    refine (exp_is _ (by omega) (by omega) hes _).mono ?_; rintro e w2 ⟨rfl, hb2⟩
    go_wp2_with fail
    refine (exp_is _ (by omega) (by omega) hem _).mono ?_; rintro e w3 ⟨rfl, hb3⟩
    go_wp2_with fail
    refine (exp_is _ (by omega) (by omega) hen _).mono ?_; rintro e w4 ⟨rfl, hb4⟩
    go_wp2_with fail
    refine (mul_is _ _ hem hen hes2 _).mono ?_; rintro e w' ⟨rfl, rfl⟩
    go_wp2_with fail
    refine (exp_is _ (by omega) (by omega) hem2 _).mono ?_; rintro e w5 ⟨rfl, hb5⟩
    go_wp2_with fail
    refine (exp_is _ (by omega) (by omega) hem _).mono ?_; rintro e w6 ⟨rfl, hb6⟩
    go_wp2_with fail
    refine (exp_is _ (by omega) (by omega) hem _).mono ?_; rintro e w7 ⟨rfl, hb7⟩
    go_wp2_with fail
    refine (log_z _).mono ?_; rintro e w' ⟨rfl, rfl⟩
    go_wp2_with fail
    go_ret
    exact ⟨ret_bool (by simp), bt (bt (bt (bt (bt (bt (hb1) hb2) hb3) hb4) hb5) hb6) hb7⟩
  · have hx0 := ha.ne hz
    have hx1 := ha.ne' hz
    have hl := F.logB_lt a hz
    obtain ⟨k, hk⟩ : ∃ k : Int, Hid ((F.logB a : Int) = k) := ⟨_, rfl⟩
    have hk0 : 0 ≤ k := by have := hk.out; omega
    have hk1 : k < 255 := by have := hk.out; omega
    have hea : IsB (F.expB (F.red k)) x := by rw [← hk.out, F.exp_red_log a hz]; exact ha
    clear hl
    go_enter Try.func3, Try.ntmps3
    go_wp2_with fail
    refine (alive_any _).mono ?_; rintro e w1 ⟨rfl, hb1⟩
    go_wp2_with fail
    refine (exp_is _ (by omega) (by omega) hes _).mono ?_; rintro e w2 ⟨rfl, hb2⟩
    go_wp2_with fail
    refine (exp_is _ (by omega) (by omega) hem _).mono ?_; rintro e w3 ⟨rfl, hb3⟩
    go_wp2_with fail
    refine (exp_is _ (by omega) (by omega) hen _).mono ?_; rintro e w4 ⟨rfl, hb4⟩
    go_wp2_with fail
    refine (mul_is _ _ hem hen hes2 _).mono ?_; rintro e w' ⟨rfl, rfl⟩
    go_wp2_with fail
    refine (exp_is _ (by omega) (by omega) hem2 _).mono ?_; rintro e w5 ⟨rfl, hb5⟩
    go_wp2_with fail
    refine (exp_is _ (by omega) (by omega) hem _).mono ?_; rintro e w6 ⟨rfl, hb6⟩
    go_wp2_with fail
    refine (exp_is _ (by omega) (by omega) hem _).mono ?_; rintro e w7 ⟨rfl, hb7⟩
    go_wp2_with fail
    refine (log_is a ha hz hk _).mono ?_; rintro e w' ⟨rfl, rfl⟩
    go_wp2_with fail
    refine (exp_is _ (by omega) (by omega) hea _).mono ?_; rintro e w8 ⟨rfl, hb8⟩
    go_wp2_with fail
    go_ret
    exact ⟨ret_bool (by simp), bt (bt (bt (bt (bt (bt (bt (hb1) hb2) hb3) hb4) hb5) hb6) hb7) hb8⟩
end Go.Proofs.Ytoafeoppfpijdaa
