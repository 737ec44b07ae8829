/-
  The walk of the law Gf256Equations, call by call.
-/
import Derived.Test.YtoafeoppfpijdaaGfIs
import Derived.Test.YtoafeoppfpijdaaGfPlain
namespace Go.Proofs.Ytoafeoppfpijdaa
open Go.RowKit
set_option linter.unusedVariables false

set_option maxRecDepth 100000 in
set_option maxHeartbeats 2000000 in
theorem gf256Equations.walk (x : Int) (wx : (Lit.int .u8 x).wf = true) (y : Int) (wy : (Lit.int .u8 y).wf = true) (z : Int) (wz : (Lit.int .u8 z).wf = true) (w : World) :
    Calls Try.prog 7 #[.int .u8 x, .int .u8 y, .int .u8 z] w fun e w' => e = .returned (.bool true) ∧ Below w.heap.size w w' := by
  obtain ⟨a, ha⟩ := IsB.of wx
  obtain ⟨b, hb⟩ := IsB.of wy
  obtain ⟨c, hc⟩ := IsB.of wz
  clear wx wy wz
  obtain ⟨xx, hxx⟩ := nm (F.mulB c c)
  obtain ⟨s, hs⟩ := nm (a ^^^ b)
  obtain ⟨sx, hsx⟩ := nm (F.mulB (a ^^^ b) c)
  obtain ⟨u, hu⟩ := nm (F.mulB c c ^^^ F.mulB (a ^^^ b) c)
  obtain ⟨p, hp⟩ := nm (F.mulB a b)
  obtain ⟨v, hv⟩ := nm (F.mulB c c ^^^ F.mulB (a ^^^ b) c ^^^ F.mulB a b)
  have hv0 : (v == 0) = decide (c = a ∨ c = b) := by
    rw [hv.eqb IsB.zero, Bool.eq_iff_iff, decide_eq_true_iff, decide_eq_true_iff]; exact F.quad a b c
  have e1 : (z == x) = decide (c = a) := hc.eqb ha
  have e2 : (z == y) = decide (c = b) := hc.eqb hb
  obtain ⟨t1, ht1⟩ : ∃ t, decide (c = a) = t := ⟨_, rfl⟩
  obtain ⟨t2, ht2⟩ : ∃ t, decide (c = b) = t := ⟨_, rfl⟩
  have hv1 : (v == 0) = (t1 || t2) := by rw [hv0, ← ht1, ← ht2, Bool.decide_or]
  rw [ht1] at e1
  rw [ht2] at e2
  clear hv0 ht1 ht2
  by_cases hz : a = 0
  · obtain rfl : x = 0 := (show IsB 0 x by rw [← hz]; exact ha).same IsB.zero
    cases t1
    · go_enter Try.func7, Try.ntmps7
      go_wp2_with fail
      refine (alive_any _).mono ?_; rintro e w1 ⟨rfl, hb1⟩
      go_wp2_with fail
      refine (mul_is c c hc hc hxx _).mono ?_; rintro e w' ⟨rfl, rfl⟩
      go_wp2_with fail
      refine (add_is a b ha hb hs _).mono ?_; rintro e w' ⟨rfl, rfl⟩
      go_wp2_with fail
      refine (mul_is _ c hs hc hsx _).mono ?_; rintro e w' ⟨rfl, rfl⟩
      go_wp2_with fail
      refine (add_is _ _ hxx hsx hu _).mono ?_; rintro e w' ⟨rfl, rfl⟩
      go_wp2_with fail
      refine (mul_is a b ha hb hp _).mono ?_; rintro e w' ⟨rfl, rfl⟩
      go_wp2_with fail
      refine (add_is _ _ hu hp hv _).mono ?_; rintro e w' ⟨rfl, rfl⟩
      go_wp2_with fail
      go_ret
      exact ⟨ret_bool (by simp), hb1⟩
    · go_enter Try.func7, Try.ntmps7
      go_wp2_with fail
      refine (alive_any _).mono ?_; rintro e w1 ⟨rfl, hb1⟩
      go_wp2_with fail
      refine (mul_is c c hc hc hxx _).mono ?_; rintro e w' ⟨rfl, rfl⟩
      go_wp2_with fail
      refine (add_is a b ha hb hs _).mono ?_; rintro e w' ⟨rfl, rfl⟩
      go_wp2_with fail
      refine (mul_is _ c hs hc hsx _).mono ?_; rintro e w' ⟨rfl, rfl⟩
      go_wp2_with fail
      refine (add_is _ _ hxx hsx hu _).mono ?_; rintro e w' ⟨rfl, rfl⟩
      go_wp2_with fail
      refine (mul_is a b ha hb hp _).mono ?_; rintro e w' ⟨rfl, rfl⟩
      go_wp2_with fail
      refine (add_is _ _ hu hp hv _).mono ?_; rintro e w' ⟨rfl, rfl⟩
      go_wp2_with fail
      go_ret
      exact ⟨ret_bool (by simp), hb1⟩
  · have hx0 := ha.ne hz
    have hx1 := ha.ne' hz
    obtain ⟨q, hq⟩ := nm (F.divB b a)
    have haq : IsB (F.mulB a (F.divB b a)) y := by rw [F.mul_div a b hz]; exact hb
    have hbb : IsB (b ^^^ b) 0 := by rw [UInt8.xor_self]; exact IsB.zero
    obtain ⟨ac, hac⟩ := nm (F.mulB a c)
    obtain ⟨l, hl⟩ := nm (F.mulB a c ^^^ b)
    have hl0 : (l == 0) = decide (c = F.divB b a) := by
      rw [hl.eqb IsB.zero, Bool.eq_iff_iff, decide_eq_true_iff, decide_eq_true_iff]; exact F.linear a b c hz
    have hzq : (z == q) = decide (c = F.divB b a) := hc.eqb hq
    obtain ⟨t3, ht3⟩ : ∃ t, decide (c = F.divB b a) = t := ⟨_, rfl⟩
    rw [ht3] at hl0 hzq
    clear ht3
    cases t1
    · go_enter Try.func7, Try.ntmps7
      go_wp2_with fail
      refine (alive_any _).mono ?_; rintro e w1 ⟨rfl, hb1⟩
      go_wp2_with fail
      refine (div_is b a hb ha hq hz _).mono ?_; rintro e w2 ⟨rfl, hb2⟩
      go_wp2_with fail
      refine (mul_is a _ ha hq haq _).mono ?_; rintro e w' ⟨rfl, rfl⟩
      go_wp2_with fail
      refine (add_is b b hb hb hbb _).mono ?_; rintro e w' ⟨rfl, rfl⟩
      go_wp2_with fail
      refine (mul_is a c ha hc hac _).mono ?_; rintro e w' ⟨rfl, rfl⟩
      go_wp2_with fail
      refine (add_is _ b hac hb hl _).mono ?_; rintro e w' ⟨rfl, rfl⟩
      go_wp2_with fail
      refine (mul_is c c hc hc hxx _).mono ?_; rintro e w' ⟨rfl, rfl⟩
      go_wp2_with fail
      refine (add_is a b ha hb hs _).mono ?_; rintro e w' ⟨rfl, rfl⟩
      go_wp2_with fail
      refine (mul_is _ c hs hc hsx _).mono ?_; rintro e w' ⟨rfl, rfl⟩
      go_wp2_with fail
      refine (add_is _ _ hxx hsx hu _).mono ?_; rintro e w' ⟨rfl, rfl⟩
      go_wp2_with fail
      refine (mul_is a b ha hb hp _).mono ?_; rintro e w' ⟨rfl, rfl⟩
      go_wp2_with fail
      refine (add_is _ _ hu hp hv _).mono ?_; rintro e w' ⟨rfl, rfl⟩
      go_wp2_with fail
      go_ret
      exact ⟨ret_bool (by simp), bt (hb1) hb2⟩
    · go_enter Try.func7, Try.ntmps7
      go_wp2_with fail
      refine (alive_any _).mono ?_; rintro e w1 ⟨rfl, hb1⟩
      go_wp2_with fail
      refine (div_is b a hb ha hq hz _).mono ?_; rintro e w2 ⟨rfl, hb2⟩
      go_wp2_with fail
      refine (mul_is a _ ha hq haq _).mono ?_; rintro e w' ⟨rfl, rfl⟩
      go_wp2_with fail
      refine (add_is b b hb hb hbb _).mono ?_; rintro e w' ⟨rfl, rfl⟩
      go_wp2_with fail
      refine (mul_is a c ha hc hac _).mono ?_; rintro e w' ⟨rfl, rfl⟩
      go_wp2_with fail
      refine (add_is _ b hac hb hl _).mono ?_; rintro e w' ⟨rfl, rfl⟩
      go_wp2_with fail
      refine (mul_is c c hc hc hxx _).mono ?_; rintro e w' ⟨rfl, rfl⟩
      go_wp2_with fail
      refine (add_is a b ha hb hs _).mono ?_; rintro e w' ⟨rfl, rfl⟩
      go_wp2_with fail
      refine (mul_is _ c hs hc hsx _).mono ?_; rintro e w' ⟨rfl, rfl⟩
      go_wp2_with fail
      refine (add_is _ _ hxx hsx hu _).mono ?_; rintro e w' ⟨rfl, rfl⟩
      go_wp2_with fail
      refine (mul_is a b ha hb hp _).mono ?_; rintro e w' ⟨rfl, rfl⟩
      go_wp2_with fail
      refine (add_is _ _ hu hp hv _).mono ?_; rintro e w' ⟨rfl, rfl⟩
      go_wp2_with fail
      go_ret
      exact ⟨ret_bool (by simp), bt (hb1) hb2⟩
end Go.Proofs.Ytoafeoppfpijdaa
