/-
  The walk of the law Gf256Operations, call by call.
-/
import Derived.Test.YtoafeoppfpijdaaGfIs
import Derived.Test.YtoafeoppfpijdaaGfPlain
namespace Go.Proofs.Ytoafeoppfpijdaa
open Go.RowKit
set_option linter.unusedVariables false

set_option maxRecDepth 100000 in
set_option maxHeartbeats 2000000 in
theorem gf256Operations.walk (x : Int) (wx : (Lit.int .u8 x).wf = true) (y : Int) (wy : (Lit.int .u8 y).wf = true) (w : World) :
    Calls Try.prog 6 #[.int .u8 x, .int .u8 y] w fun e w' => e = .returned (.bool true) ∧ Below w.heap.size w w' := by
  obtain ⟨a, ha⟩ := IsB.of wx
  obtain ⟨b, hb⟩ := IsB.of wy
  clear wx wy
  obtain ⟨s, hs⟩ := nm (a ^^^ b)
  obtain ⟨p, hp⟩ := nm (F.mulB a b)
  obtain ⟨i, hi⟩ := nm (F.invB a)
  obtain ⟨q, hq⟩ := nm (F.divB a b)
  by_cases hx : a = 0
  · subst hx
    obtain rfl : x = 0 := ha.same IsB.zero
    have ha := IsB.zero
    by_cases hy : b = 0
    · subst hy
      obtain rfl : y = 0 := hb.same IsB.zero
      go_enter Try.func6, Try.ntmps6
      go_wp2_with fail
      refine (alive_any _).mono ?_; rintro e w1 ⟨rfl, hb1⟩
      go_wp2_with fail
      refine (inv_z _).mono ?_; rintro e w2 ⟨rfl, hb2⟩
      go_wp2_with fail
      refine (rinv_z _).mono ?_; rintro e w' ⟨rfl, rfl⟩
      go_wp2_with fail
      refine (div0_is 0 IsB.zero _).mono ?_; rintro e w3 ⟨rfl, hb3⟩
      go_wp2_with fail
      refine (rdiv0_is 0 IsB.zero _).mono ?_; rintro e w' ⟨rfl, rfl⟩
      go_wp2_with fail
      refine (add_is 0 0 ha hb hs _).mono ?_; rintro e w' ⟨rfl, rfl⟩
      go_wp2_with fail
      refine (radd_is 0 0 ha hb hs _).mono ?_; rintro e w' ⟨rfl, rfl⟩
      go_wp2_with fail
      refine (mul_is 0 0 ha hb hp _).mono ?_; rintro e w' ⟨rfl, rfl⟩
      go_wp2_with fail
      refine (rmul_is 0 0 ha hb hp _).mono ?_; rintro e w' ⟨rfl, rfl⟩
      go_wp2_with fail
      go_ret
      exact ⟨ret_bool (by simp), bt (bt (hb1) hb2) hb3⟩
    · go_enter Try.func6, Try.ntmps6
      go_wp2_with fail
      refine (alive_any _).mono ?_; rintro e w1 ⟨rfl, hb1⟩
      go_wp2_with fail
      refine (inv_z _).mono ?_; rintro e w2 ⟨rfl, hb2⟩
      go_wp2_with fail
      refine (rinv_z _).mono ?_; rintro e w' ⟨rfl, rfl⟩
      go_wp2_with fail
      refine (div_is 0 b ha hb hq hy _).mono ?_; rintro e w3 ⟨rfl, hb3⟩
      go_wp2_with fail
      refine (rdiv_is 0 b ha hb hq hy _).mono ?_; rintro e w' ⟨rfl, rfl⟩
      go_wp2_with fail
      refine (add_is 0 b ha hb hs _).mono ?_; rintro e w' ⟨rfl, rfl⟩
      go_wp2_with fail
      refine (radd_is 0 b ha hb hs _).mono ?_; rintro e w' ⟨rfl, rfl⟩
      go_wp2_with fail
      refine (mul_is 0 b ha hb hp _).mono ?_; rintro e w' ⟨rfl, rfl⟩
      go_wp2_with fail
      refine (rmul_is 0 b ha hb hp _).mono ?_; rintro e w' ⟨rfl, rfl⟩
      go_wp2_with fail
      go_ret
      exact ⟨ret_bool (by simp), bt (bt (hb1) hb2) hb3⟩
  · by_cases hy : b = 0
    · subst hy
      obtain rfl : y = 0 := hb.same IsB.zero
      go_enter Try.func6, Try.ntmps6
      go_wp2_with fail
      refine (alive_any _).mono ?_; rintro e w1 ⟨rfl, hb1⟩
      go_wp2_with fail
      refine (inv_is a ha hi hx _).mono ?_; rintro e w2 ⟨rfl, hb2⟩
      go_wp2_with fail
      refine (rinv_is a ha hi hx _).mono ?_; rintro e w' ⟨rfl, rfl⟩
      go_wp2_with fail
      refine (div0_is a ha _).mono ?_; rintro e w3 ⟨rfl, hb3⟩
      go_wp2_with fail
      refine (rdiv0_is a ha _).mono ?_; rintro e w' ⟨rfl, rfl⟩
      go_wp2_with fail
      refine (add_is a 0 ha hb hs _).mono ?_; rintro e w' ⟨rfl, rfl⟩
      go_wp2_with fail
      refine (radd_is a 0 ha hb hs _).mono ?_; rintro e w' ⟨rfl, rfl⟩
      go_wp2_with fail
      refine (mul_is a 0 ha hb hp _).mono ?_; rintro e w' ⟨rfl, rfl⟩
      go_wp2_with fail
      refine (rmul_is a 0 ha hb hp _).mono ?_; rintro e w' ⟨rfl, rfl⟩
      go_wp2_with fail
      go_ret
      exact ⟨ret_bool (by simp), bt (bt (hb1) hb2) hb3⟩
    · go_enter Try.func6, Try.ntmps6
      go_wp2_with fail
      refine (alive_any _).mono ?_; rintro e w1 ⟨rfl, hb1⟩
      go_wp2_with fail
      refine (inv_is a ha hi hx _).mono ?_; rintro e w2 ⟨rfl, hb2⟩
      go_wp2_with fail
      refine (rinv_is a ha hi hx _).mono ?_; rintro e w' ⟨rfl, rfl⟩
      go_wp2_with fail
      refine (div_is a b ha hb hq hy _).mono ?_; rintro e w3 ⟨rfl, hb3⟩
      go_wp2_with fail
      refine (rdiv_is a b ha hb hq hy _).mono ?_; rintro e w' ⟨rfl, rfl⟩
      go_wp2_with fail
      refine (add_is a b ha hb hs _).mono ?_; rintro e w' ⟨rfl, rfl⟩
      go_wp2_with fail
      refine (radd_is a b ha hb hs _).mono ?_; rintro e w' ⟨rfl, rfl⟩
      go_wp2_with fail
      refine (mul_is a b ha hb hp _).mono ?_; rintro e w' ⟨rfl, rfl⟩
      go_wp2_with fail
      refine (rmul_is a b ha hb hp _).mono ?_; rintro e w' ⟨rfl, rfl⟩
      go_wp2_with fail
      go_ret
      exact ⟨ret_bool (by simp), bt (bt (hb1) hb2) hb3⟩
end Go.Proofs.Ytoafeoppfpijdaa
