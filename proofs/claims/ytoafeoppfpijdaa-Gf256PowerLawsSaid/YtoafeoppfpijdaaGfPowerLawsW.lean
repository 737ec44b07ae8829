/-
  The walk of the law Gf256PowerLaws, call by call.
-/
import Derived.Test.YtoafeoppfpijdaaGfIs
import Derived.Test.YtoafeoppfpijdaaGfPlain
namespace Go.Proofs.Ytoafeoppfpijdaa
open Go.RowKit
set_option linter.unusedVariables false

set_option maxRecDepth 100000 in
set_option maxHeartbeats 2000000 in
theorem gf256PowerLaws.walk (x : Int) (wx : (Lit.int .u8 x).wf = true) (m : Int) (wm : (Lit.int .i32 m).wf = true) (n : Int) (wn : (Lit.int .i32 n).wf = true) (w : World) :
    Calls Try.prog 9 #[.int .u8 x, .int .i32 m, .int .i32 n] w fun e w' => e = .returned (.bool true) ∧ Below w.heap.size w w' := by
  obtain ⟨a, ha⟩ := IsB.of wx
  have bm := bounds_i32 wm
  have bn := bounds_i32 wn
  clear wx wm wn
  by_cases hz : a = 0
  · obtain rfl : x = 0 := (show IsB 0 x by rw [← hz]; exact ha).same IsB.zero
    obtain ⟨r2, hr2⟩ : ∃ r : Int, Hid ((if n = 0 then (1 : Int) else 0) = r) := ⟨_, rfl⟩
    obtain ⟨t2, ht2⟩ : ∃ t : Bool, Hid (decide (0 ≤ n) = t) := ⟨_, rfl⟩
    obtain ⟨r3, hr3⟩ : ∃ r : Int, Hid ((if m + n = 0 then (1 : Int) else 0) = r) := ⟨_, rfl⟩
    obtain ⟨t3, ht3⟩ : ∃ t : Bool, Hid (decide (0 ≤ m + n) = t) := ⟨_, rfl⟩
    rcases (show m = 0 ∨ 0 < m ∨ m < 0 by omega) with hm | hm | hm
    · subst hm
      have hr : Hid ((if (0 : Int) = 0 then (1 : Int) else 0) = 1) := rfl
      have ht : Hid (decide ((0 : Int) ≤ 0) = true) := rfl
      go_enter Try.func9, Try.ntmps9
      go_wp2_with fail
      refine (alive_any _).mono ?_; rintro e w1 ⟨rfl, hb1⟩
      go_wp2_with fail
      refine (pow0_is 0 hr ht _).mono ?_; rintro e w2 ⟨rfl, hb2⟩
      go_wp2_with fail
      refine (pow0_is n hr2 ht2 _).mono ?_; rintro e w3 ⟨rfl, hb3⟩
      go_wp2_with fail
      refine (pow0_is n hr2 ht2 _).mono ?_; rintro e w4 ⟨rfl, hb4⟩
      go_wp2_with fail
      go_ret
      exact ⟨ret_bool (by simp), bt (bt (bt (hb1) hb2) hb3) hb4⟩
    · have hr : Hid ((if m = 0 then (1 : Int) else 0) = 0) := by unfold Hid; rw [if_neg (by omega)]
      have ht : Hid (decide (0 ≤ m) = true) := by unfold Hid; rw [decide_eq_true_iff]; omega
      have hm0 : (m == 0) = false := by rw [beq_eq_false_iff_ne]; omega
      go_enter Try.func9, Try.ntmps9
      go_wp2_with fail
      refine (alive_any _).mono ?_; rintro e w1 ⟨rfl, hb1⟩
      go_wp2_with fail
      refine (pow0_is _ hr ht _).mono ?_; rintro e w2 ⟨rfl, hb2⟩
      go_wp2_with fail
      refine (pow0_is n hr2 ht2 _).mono ?_; rintro e w3 ⟨rfl, hb3⟩
      go_wp2_with fail
      refine (pow0_is _ hr3 ht3 _).mono ?_; rintro e w4 ⟨rfl, hb4⟩
      go_wp2_with fail
      go_ret
      exact ⟨ret_bool (by simp), bt (bt (bt (hb1) hb2) hb3) hb4⟩
    · have hr : Hid ((if m = 0 then (1 : Int) else 0) = 0) := by unfold Hid; rw [if_neg (by omega)]
      have ht : Hid (decide (0 ≤ m) = false) := by unfold Hid; rw [decide_eq_false_iff_not]; omega
      have hm0 : (m == 0) = false := by rw [beq_eq_false_iff_ne]; omega
      go_enter Try.func9, Try.ntmps9
      go_wp2_with fail
      refine (alive_any _).mono ?_; rintro e w1 ⟨rfl, hb1⟩
      go_wp2_with fail
      refine (pow0_is _ hr ht _).mono ?_; rintro e w2 ⟨rfl, hb2⟩
      go_wp2_with fail
      refine (pow0_is n hr2 ht2 _).mono ?_; rintro e w3 ⟨rfl, hb3⟩
      go_wp2_with fail
      refine (pow0_is _ hr3 ht3 _).mono ?_; rintro e w4 ⟨rfl, hb4⟩
      go_wp2_with fail
      go_ret
      exact ⟨ret_bool (by simp), bt (bt (bt (hb1) hb2) hb3) hb4⟩
  · have hx0 := ha.ne hz
    obtain ⟨pm, hpm⟩ := nm (F.powB a (F.red m))
    obtain ⟨pn, hpn⟩ := nm (F.powB a (F.red n))
    obtain ⟨ps, hps⟩ := nm (F.powB a (F.red (m + n)))
    have hps2 : IsB (F.mulB (F.powB a (F.red m)) (F.powB a (F.red n))) ps := by rw [← F.pow_red_add a hz]; exact hps
    go_enter Try.func9, Try.ntmps9
    go_wp2_with fail
    refine (alive_any _).mono ?_; rintro e w1 ⟨rfl, hb1⟩
    go_wp2_with fail
    refine (pow_is a m ha hz (by omega) (by omega) hpm _).mono ?_; rintro e w2 ⟨rfl, hb2⟩
    go_wp2_with fail
    refine (pow_is a n ha hz (by omega) (by omega) hpn _).mono ?_; rintro e w3 ⟨rfl, hb3⟩
    go_wp2_with fail
    refine (pow_is a (m + n) ha hz (by omega) (by omega) hps _).mono ?_; rintro e w4 ⟨rfl, hb4⟩
    go_wp2_with fail
    refine (mul_is _ _ hpm hpn hps2 _).mono ?_; rintro e w' ⟨rfl, rfl⟩
    go_wp2_with fail
    go_ret
    exact ⟨ret_bool (by simp), bt (bt (bt (hb1) hb2) hb3) hb4⟩
end Go.Proofs.Ytoafeoppfpijdaa
