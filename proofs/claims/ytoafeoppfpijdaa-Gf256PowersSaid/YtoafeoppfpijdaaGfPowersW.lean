/-
  The walk of the law Gf256Powers, call by call.
-/
import Derived.Test.YtoafeoppfpijdaaGfIs
import Derived.Test.YtoafeoppfpijdaaGfPlain
namespace Go.Proofs.Ytoafeoppfpijdaa
open Go.RowKit
set_option linter.unusedVariables false

set_option maxRecDepth 100000 in
set_option maxHeartbeats 2000000 in
theorem gf256Powers.walk (x : Int) (wx : (Lit.int .u8 x).wf = true) (n : Int) (wn : (Lit.int .i64 n).wf = true) (w : World) :
    Calls Try.prog 8 #[.int .u8 x, .int .i64 n] w fun e w' => e = .returned (.bool true) ∧ Below w.heap.size w w' := by
  obtain ⟨a, ha⟩ := IsB.of wx
  have bn := bounds_i64 wn
  clear wx wn
  obtain ⟨e, he⟩ := nm (F.expB (F.red n))
  obtain ⟨p, hp⟩ := nm (F.powB a (F.red n))
  have hn1 : -9223372036854775808 ≤ n := bn.1
  have hn2 : n ≤ 9223372036854775807 := bn.2
  by_cases hz : a = 0
  · obtain rfl : x = 0 := (show IsB 0 x by rw [← hz]; exact ha).same IsB.zero
    obtain ⟨r, hr⟩ : ∃ r : Int, Hid ((if n = 0 then (1 : Int) else 0) = r) := ⟨_, rfl⟩
    obtain ⟨t, ht⟩ : ∃ t : Bool, Hid (decide (0 ≤ n) = t) := ⟨_, rfl⟩
    go_enter Try.func8, Try.ntmps8
    go_wp2_with fail
    refine (alive_any _).mono ?_; rintro e w1 ⟨rfl, hb1⟩
    go_wp2_with fail
    refine (log_z _).mono ?_; rintro e w' ⟨rfl, rfl⟩
    go_wp2_with fail
    refine (rlog_z _).mono ?_; rintro e w' ⟨rfl, rfl⟩
    go_wp2_with fail
    refine (pow0_is n hr ht _).mono ?_; rintro e w2 ⟨rfl, hb2⟩
    go_wp2_with fail
    refine (rpow0_is n hr ht _).mono ?_; rintro e w' ⟨rfl, rfl⟩
    go_wp2_with fail
    refine (exp_is _ hn1 hn2 he _).mono ?_; rintro e w3 ⟨rfl, hb3⟩
    go_wp2_with fail
    refine (rexp_is _ hn1 hn2 he _).mono ?_; rintro e w' ⟨rfl, rfl⟩
    go_wp2_with fail
    go_ret
    exact ⟨ret_bool (by simp), bt (bt (hb1) hb2) hb3⟩
  · obtain ⟨k, hk⟩ : ∃ k : Int, Hid ((F.logB a : Int) = k) := ⟨_, rfl⟩
    go_enter Try.func8, Try.ntmps8
    go_wp2_with fail
    refine (alive_any _).mono ?_; rintro e w1 ⟨rfl, hb1⟩
    go_wp2_with fail
    refine (log_is a ha hz hk _).mono ?_; rintro e w' ⟨rfl, rfl⟩
    go_wp2_with fail
    refine (rlog_is a ha hz hk _).mono ?_; rintro e w' ⟨rfl, rfl⟩
    go_wp2_with fail
    refine (pow_is a n ha hz hn1 hn2 hp _).mono ?_; rintro e w2 ⟨rfl, hb2⟩
    go_wp2_with fail
    refine (rpow_is a n ha hz hn1 hn2 hp _).mono ?_; rintro e w' ⟨rfl, rfl⟩
    go_wp2_with fail
    refine (exp_is _ hn1 hn2 he _).mono ?_; rintro e w3 ⟨rfl, hb3⟩
    go_wp2_with fail
    refine (rexp_is _ hn1 hn2 he _).mono ?_; rintro e w' ⟨rfl, rfl⟩
    go_wp2_with fail
    go_ret
    exact ⟨ret_bool (by simp), bt (bt (hb1) hb2) hb3⟩
end Go.Proofs.Ytoafeoppfpijdaa
