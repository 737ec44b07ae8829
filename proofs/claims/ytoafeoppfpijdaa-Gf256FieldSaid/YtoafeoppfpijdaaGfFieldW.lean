/-
  The walk of the law Gf256Field, call by call.
-/
import Derived.Test.YtoafeoppfpijdaaGfIs
import Derived.Test.YtoafeoppfpijdaaGfPlain
namespace Go.Proofs.Ytoafeoppfpijdaa
open Go.RowKit
set_option linter.unusedVariables false

set_option maxRecDepth 100000 in
set_option maxHeartbeats 2000000 in
theorem gf256Field.walk (x : Int) (wx : (Lit.int .u8 x).wf = true) (y : Int) (wy : (Lit.int .u8 y).wf = true) (z : Int) (wz : (Lit.int .u8 z).wf = true) (w : World) :
    Calls Try.prog 4 #[.int .u8 x, .int .u8 y, .int .u8 z] w fun e w' => e = .returned (.bool true) ∧ Below w.heap.size w w' := by
  obtain ⟨a, ha⟩ := IsB.of wx
  obtain ⟨b, hb⟩ := IsB.of wy
  obtain ⟨c, hc⟩ := IsB.of wz
  clear wx wy wz
  obtain ⟨ab, hab⟩ := nm (a ^^^ b)
  have hba : IsB (b ^^^ a) ab := by rw [UInt8.xor_comm]; exact hab
  obtain ⟨mab, hmab⟩ := nm (F.mulB a b)
  have hmba : IsB (F.mulB b a) mab := by rw [show F.mulB b a = F.mulB a b from F.mul_comm b a]; exact hmab
  obtain ⟨abc, habc⟩ := nm (a ^^^ b ^^^ c)
  obtain ⟨bc, hbc⟩ := nm (b ^^^ c)
  have habc2 : IsB (a ^^^ (b ^^^ c)) abc := by rw [← UInt8.xor_assoc]; exact habc
  obtain ⟨mabc, hmabc⟩ := nm (F.mulB (F.mulB a b) c)
  obtain ⟨mbc, hmbc⟩ := nm (F.mulB b c)
  have hmabc2 : IsB (F.mulB a (F.mulB b c)) mabc := by rw [show F.mulB a (F.mulB b c) = F.mulB (F.mulB a b) c from (F.mul_assoc a b c).symm]; exact hmabc
  obtain ⟨d, hd⟩ := nm (F.mulB a (b ^^^ c))
  obtain ⟨mac, hmac⟩ := nm (F.mulB a c)
  have hd2 : IsB (F.mulB a b ^^^ F.mulB a c) d := by rw [show F.mulB a b ^^^ F.mulB a c = F.mulB a (b ^^^ c) from (F.mul_add a b c).symm]; exact hd
  have ha0 : IsB (a ^^^ 0) x := by rw [UInt8.xor_zero]; exact ha
  have ha1 : IsB (F.mulB a 1) x := by rw [show F.mulB a 1 = a from F.mul_one a]; exact ha
  have ham : IsB (F.mulB a 0) 0 := by rw [show F.mulB a 0 = 0 from F.mul_zero a]; exact IsB.zero
  have haa : IsB (a ^^^ a) 0 := by rw [UInt8.xor_self]; exact IsB.zero
  by_cases hz : a = 0
  · obtain rfl : x = 0 := (show IsB 0 x by rw [← hz]; exact ha).same IsB.zero
    go_enter Try.func4, Try.ntmps4
    go_wp2_with fail
    refine (alive_any _).mono ?_; rintro e w1 ⟨rfl, hb1⟩
    go_wp2_with fail
    refine (add_is a b ha hb hab _).mono ?_; rintro e w' ⟨rfl, rfl⟩
    go_wp2_with fail
    refine (add_is b a hb ha hba _).mono ?_; rintro e w' ⟨rfl, rfl⟩
    go_wp2_with fail
    refine (mul_is a b ha hb hmab _).mono ?_; rintro e w' ⟨rfl, rfl⟩
    go_wp2_with fail
    refine (mul_is b a hb ha hmba _).mono ?_; rintro e w' ⟨rfl, rfl⟩
    go_wp2_with fail
    refine (add_is a b ha hb hab _).mono ?_; rintro e w' ⟨rfl, rfl⟩
    go_wp2_with fail
    refine (add_is (a ^^^ b) c hab hc habc _).mono ?_; rintro e w' ⟨rfl, rfl⟩
    go_wp2_with fail
    refine (add_is b c hb hc hbc _).mono ?_; rintro e w' ⟨rfl, rfl⟩
    go_wp2_with fail
    refine (add_is a (b ^^^ c) ha hbc habc2 _).mono ?_; rintro e w' ⟨rfl, rfl⟩
    go_wp2_with fail
    refine (mul_is a b ha hb hmab _).mono ?_; rintro e w' ⟨rfl, rfl⟩
    go_wp2_with fail
    refine (mul_is (F.mulB a b) c hmab hc hmabc _).mono ?_; rintro e w' ⟨rfl, rfl⟩
    go_wp2_with fail
    refine (mul_is b c hb hc hmbc _).mono ?_; rintro e w' ⟨rfl, rfl⟩
    go_wp2_with fail
    refine (mul_is a (F.mulB b c) ha hmbc hmabc2 _).mono ?_; rintro e w' ⟨rfl, rfl⟩
    go_wp2_with fail
    refine (add_is b c hb hc hbc _).mono ?_; rintro e w' ⟨rfl, rfl⟩
    go_wp2_with fail
    refine (mul_is a (b ^^^ c) ha hbc hd _).mono ?_; rintro e w' ⟨rfl, rfl⟩
    go_wp2_with fail
    refine (mul_is a b ha hb hmab _).mono ?_; rintro e w' ⟨rfl, rfl⟩
    go_wp2_with fail
    refine (mul_is a c ha hc hmac _).mono ?_; rintro e w' ⟨rfl, rfl⟩
    go_wp2_with fail
    refine (add_is (F.mulB a b) (F.mulB a c) hmab hmac hd2 _).mono ?_; rintro e w' ⟨rfl, rfl⟩
    go_wp2_with fail
    refine (add_is a 0 ha IsB.zero ha0 _).mono ?_; rintro e w' ⟨rfl, rfl⟩
    go_wp2_with fail
    refine (mul_is a 1 ha IsB.one ha1 _).mono ?_; rintro e w' ⟨rfl, rfl⟩
    go_wp2_with fail
    refine (mul_is a 0 ha IsB.zero ham _).mono ?_; rintro e w' ⟨rfl, rfl⟩
    go_wp2_with fail
    refine (add_is a a ha ha haa _).mono ?_; rintro e w' ⟨rfl, rfl⟩
    go_wp2_with fail
    refine (inv_z _).mono ?_; rintro e w2 ⟨rfl, hb2⟩
    go_wp2_with fail
    go_ret
    exact ⟨ret_bool (by simp), bt (hb1) hb2⟩
  · obtain ⟨i, hi⟩ := nm (F.invB a)
    have hai : IsB (F.mulB a (F.invB a)) 1 := by rw [show F.mulB a (F.invB a) = 1 from F.mul_inv (a := a) hz]; exact IsB.one
    have hx0 := ha.ne hz
    have hx1 := ha.ne' hz
    go_enter Try.func4, Try.ntmps4
    go_wp2_with fail
    refine (alive_any _).mono ?_; rintro e w1 ⟨rfl, hb1⟩
    go_wp2_with fail
    refine (add_is a b ha hb hab _).mono ?_; rintro e w' ⟨rfl, rfl⟩
    go_wp2_with fail
    refine (add_is b a hb ha hba _).mono ?_; rintro e w' ⟨rfl, rfl⟩
    go_wp2_with fail
    refine (mul_is a b ha hb hmab _).mono ?_; rintro e w' ⟨rfl, rfl⟩
    go_wp2_with fail
    refine (mul_is b a hb ha hmba _).mono ?_; rintro e w' ⟨rfl, rfl⟩
    go_wp2_with fail
    refine (add_is a b ha hb hab _).mono ?_; rintro e w' ⟨rfl, rfl⟩
    go_wp2_with fail
    refine (add_is (a ^^^ b) c hab hc habc _).mono ?_; rintro e w' ⟨rfl, rfl⟩
    go_wp2_with fail
    refine (add_is b c hb hc hbc _).mono ?_; rintro e w' ⟨rfl, rfl⟩
    go_wp2_with fail
    refine (add_is a (b ^^^ c) ha hbc habc2 _).mono ?_; rintro e w' ⟨rfl, rfl⟩
    go_wp2_with fail
    refine (mul_is a b ha hb hmab _).mono ?_; rintro e w' ⟨rfl, rfl⟩
    go_wp2_with fail
    refine (mul_is (F.mulB a b) c hmab hc hmabc _).mono ?_; rintro e w' ⟨rfl, rfl⟩
    go_wp2_with fail
    refine (mul_is b c hb hc hmbc _).mono ?_; rintro e w' ⟨rfl, rfl⟩
    go_wp2_with fail
    refine (mul_is a (F.mulB b c) ha hmbc hmabc2 _).mono ?_; rintro e w' ⟨rfl, rfl⟩
    go_wp2_with fail
    refine (add_is b c hb hc hbc _).mono ?_; rintro e w' ⟨rfl, rfl⟩
    go_wp2_with fail
    refine (mul_is a (b ^^^ c) ha hbc hd _).mono ?_; rintro e w' ⟨rfl, rfl⟩
    go_wp2_with fail
    refine (mul_is a b ha hb hmab _).mono ?_; rintro e w' ⟨rfl, rfl⟩
    go_wp2_with fail
    refine (mul_is a c ha hc hmac _).mono ?_; rintro e w' ⟨rfl, rfl⟩
    go_wp2_with fail
    refine (add_is (F.mulB a b) (F.mulB a c) hmab hmac hd2 _).mono ?_; rintro e w' ⟨rfl, rfl⟩
    go_wp2_with fail
    refine (add_is a 0 ha IsB.zero ha0 _).mono ?_; rintro e w' ⟨rfl, rfl⟩
    go_wp2_with fail
    refine (mul_is a 1 ha IsB.one ha1 _).mono ?_; rintro e w' ⟨rfl, rfl⟩
    go_wp2_with fail
    refine (mul_is a 0 ha IsB.zero ham _).mono ?_; rintro e w' ⟨rfl, rfl⟩
    go_wp2_with fail
    refine (add_is a a ha ha haa _).mono ?_; rintro e w' ⟨rfl, rfl⟩
    go_wp2_with fail
    refine (inv_is a ha hi hz _).mono ?_; rintro e w2 ⟨rfl, hb2⟩
    go_wp2_with fail
    refine (mul_is a (F.invB a) ha hi hai _).mono ?_; rintro e w' ⟨rfl, rfl⟩
    go_wp2_with fail
    go_ret
    exact ⟨ret_bool (by simp), bt (hb1) hb2⟩
end Go.Proofs.Ytoafeoppfpijdaa
