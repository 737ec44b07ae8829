/-
  The walk of the law Gf256Frobenius, call by call.
-/
import Derived.Test.YtoafeoppfpijdaaGfIs
import Derived.Test.YtoafeoppfpijdaaGfPlain
namespace Go.Proofs.Ytoafeoppfpijdaa
open Go.RowKit
set_option linter.unusedVariables false

set_option maxRecDepth 100000 in
set_option maxHeartbeats 2000000 in
theorem gf256Frobenius.walk (x : Int) (wx : (Lit.int .u8 x).wf = true) (y : Int) (wy : (Lit.int .u8 y).wf = true) (w : World) :
    Calls Try.prog 10 #[.int .u8 x, .int .u8 y] w fun e w' => e = .returned (.bool true) ∧ Below w.heap.size w w' := by
  obtain ⟨a, ha⟩ := IsB.of wx
  obtain ⟨b, hb⟩ := IsB.of wy
  clear wx wy
  obtain ⟨s, hs⟩ := nm (a ^^^ b)
  obtain ⟨aa, haa⟩ := nm (F.mulB a a)
  obtain ⟨bb, hbb⟩ := nm (F.mulB b b)
  obtain ⟨ss, hss⟩ := nm (F.mulB (a ^^^ b) (a ^^^ b))
  have hss2 : IsB (F.mulB a a ^^^ F.mulB b b) ss := by rw [← F.frob a b]; exact hss
  go_enter Try.func10, Try.ntmps10
  go_wp2_with fail
  refine (alive_any _).mono ?_; rintro e w1 ⟨rfl, hb1⟩
  go_wp2_with fail
  refine (add_is a b ha hb hs _).mono ?_; rintro e w' ⟨rfl, rfl⟩
  go_wp2_with fail
  refine (pow2_is _ hs hss _).mono ?_; rintro e w2 ⟨rfl, hb2⟩
  go_wp2_with fail
  refine (pow2_is a ha haa _).mono ?_; rintro e w3 ⟨rfl, hb3⟩
  go_wp2_with fail
  refine (pow2_is b hb hbb _).mono ?_; rintro e w4 ⟨rfl, hb4⟩
  go_wp2_with fail
  refine (pow256_is a ha _).mono ?_; rintro e w5 ⟨rfl, hb5⟩
  go_wp2_with fail
  refine (add_is _ _ haa hbb hss2 _).mono ?_; rintro e w' ⟨rfl, rfl⟩
  go_wp2_with fail
  refine (mul_is a a ha ha haa _).mono ?_; rintro e w' ⟨rfl, rfl⟩
  go_wp2_with fail
  go_ret
  exact ⟨ret_bool (by simp), bt (bt (bt (bt (hb1) hb2) hb3) hb4) hb5⟩
end Go.Proofs.Ytoafeoppfpijdaa
