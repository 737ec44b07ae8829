/-
  The walk of the law RsdecodeLocate.
-/
import Derived.Test.YtamkahjdedomlaaRdLocRef
namespace Go.Proofs.Ytamkahjdedomlaa
open Go.RowKit
set_option linter.unusedVariables false

theorem i64_in_wf {k : Int} (h : (Lit.int .i64 k).wf = true) : -9223372036854775808 ≤ k ∧ k ≤ 9223372036854775807 := by
  have := bounds_i64 h
  omega
theorem radius_h (p e s : Int) (b : Bool) (hp : (Lit.int .i64 p).wf = true) (he : (Lit.int .i64 e).wf = true) (hs : (Lit.int .i64 s).wf = true) (hb : Hid (radB p e s = b)) (w : World) : Calls Try.prog 13 #[.int .i64 p, .int .i64 e, .int .i64 s] w fun r w' => r = .returned (.bool b) ∧ w = w' := by
  rw [← hb.out]; exact radius_any p e s w (i64_in_wf hp).1 (i64_in_wf hp).2 (i64_in_wf he).1 (i64_in_wf he).2 (i64_in_wf hs).1 (i64_in_wf hs).2
theorem rradius_h (p e s : Int) (b : Bool) (hp : (Lit.int .i64 p).wf = true) (he : (Lit.int .i64 e).wf = true) (hs : (Lit.int .i64 s).wf = true) (hb : Hid (radB p e s = b)) (w : World) : Calls Try.prog 14 #[.int .i64 p, .int .i64 e, .int .i64 s] w fun r w' => r = .returned (.bool b) ∧ w = w' := by
  rw [← hb.out]; exact rradius_any p e s w (i64_in_wf hp).1 (i64_in_wf hp).2 (i64_in_wf he).1 (i64_in_wf he).2 (i64_in_wf hs).1 (i64_in_wf hs).2

set_option maxRecDepth 100000 in
set_option maxHeartbeats 1000000 in
theorem rsdecodeLocate.walk (a : ByteArray) (w0 : a.size ≤ maxLen) (b : ByteArray) (w1 : b.size ≤ maxLen) (p : Int) (w2 : (Lit.int .i64 p).wf = true) (f : Int) (w3 : (Lit.int .i64 f).wf = true) (s : Int) (w4 : (Lit.int .i64 s).wf = true) (w : World) :
    Calls Try.prog 3 #[.string a, .string b, .int .i64 p, .int .i64 f, .int .i64 s] w fun e w' => e = .returned (.bool true) ∧ Below w.heap.size w w' := by
  obtain ⟨r, hr⟩ : ∃ r, radB p f s = r := ⟨_, rfl⟩
  have HR := Lib.hid hr
  have HW2 := Lib.hid w2
  have HW3 := Lib.hid w3
  have HW4 := Lib.hid w4
  unfold maxLen at w0 w1
  clear hr w2 w3 w4
  by_cases ha : 300 < a.size
  · go_enter Try.func3, Try.ntmps3
    go_wp2_with fail
    refine (alive_any _).mono ?_
    rintro e w1 ⟨rfl, hB1⟩
    have HB1 := Lib.hid hB1
    clear hB1
    go_wp2
    go_ret
    exact ⟨rfl, HB1.out⟩
  · by_cases hb : 300 < b.size
    · go_enter Try.func3, Try.ntmps3
      go_wp2_with fail
      refine (alive_any _).mono ?_
      rintro e w1 ⟨rfl, hB1⟩
      have HB1 := Lib.hid hB1
      clear hB1
      go_wp2
      go_ret
      exact ⟨rfl, HB1.out⟩
    · by_cases hab : a.size = b.size
      · have HAB := Lib.hid hab
        clear hab
        obtain ⟨D, hD⟩ : ∃ D, natI (diffs a.data.toList b.data.toList) = D := ⟨_, rfl⟩
        have hDl : D.length ≤ 100000 := by
          rw [← hD]; unfold natI diffs
          rw [List.length_map]
          refine Nat.le_trans (List.length_filter_le _ _) ?_
          rw [List.length_range]
          show a.size ≤ _
          omega
        have HDD := Lib.hid hD
        clear hD
        go_enter Try.func3, Try.ntmps3
        go_wp2_with fail
        refine (alive_any _).mono ?_
        rintro e w1 ⟨rfl, hB1⟩
        have HB1 := Lib.hid hB1
        clear hB1
        go_wp2_with fail
        have hl := locate_any a b a.size rfl HAB.out.symm (by omega) w1
        rw [HDD.out] at hl
        refine hl.mono ?_
        rintro e w2 ⟨v2, rfl, hs2, hB2⟩
        have HB2 := Lib.hid (bt HB1.out hB2)
        have HS2 := Lib.hid hs2
        clear hB2 hs2 hl
        go_wp2_with fail
        have hl := rlocate_any a b a.size rfl HAB.out.symm (by omega) w2
        rw [HDD.out] at hl
        refine hl.mono ?_
        rintro e w3 ⟨v3, rfl, hs3, hB3⟩
        have HB3 := Lib.hid (bt HB2.out hB3)
        have HS2' := Lib.hid (HS2.out.kept hB3)
        have HS3 := Lib.hid hs3
        clear hB3 hs3 hl HS2
        go_wp2_with fail
        refine (rsame_any v2 v3 D _ HS2'.out.rd HS3.out.rd hDl).mono ?_
        rintro e w4 ⟨rfl, hB4⟩
        have HB4 := Lib.hid (bt HB3.out hB4)
        clear hB4
        go_wp2_with fail
        refine (radius_h p _ s r HW2.out HW3.out HW4.out HR _).mono ?_
        rintro e w5 ⟨rfl, rfl⟩
        go_wp2_with fail
        refine (rradius_h p _ s r HW2.out HW3.out HW4.out HR _).mono ?_
        rintro e w5 ⟨rfl, rfl⟩
        go_wp2
        go_ret
        exact ⟨rfl, HB4.out⟩
      · have HAB := Lib.hid hab
        clear hab
        go_enter Try.func3, Try.ntmps3
        go_wp2_with fail
        refine (alive_any _).mono ?_
        rintro e w1 ⟨rfl, hB1⟩
        have HB1 := Lib.hid hB1
        clear hB1
        go_wp2_with fail
        refine (locate_bad a b HAB.out _).mono ?_
        rintro e w2 ⟨rfl, rfl⟩
        go_wp2_with fail
        refine (rlocate_bad a b HAB.out _).mono ?_
        rintro e w2 ⟨rfl, rfl⟩
        go_wp2_with fail
        refine (rsame_any _ _ [] _ (Or.inl ⟨none, 0, rfl, rfl⟩) (Or.inl ⟨none, 0, rfl, rfl⟩) (by simp)).mono ?_
        rintro e w4 ⟨rfl, hB4⟩
        have HB4 := Lib.hid (bt HB1.out hB4)
        clear hB4
        go_wp2_with fail
        refine (radius_h p _ s r HW2.out HW3.out HW4.out HR _).mono ?_
        rintro e w5 ⟨rfl, rfl⟩
        go_wp2_with fail
        refine (rradius_h p _ s r HW2.out HW3.out HW4.out HR _).mono ?_
        rintro e w5 ⟨rfl, rfl⟩
        go_wp2
        go_ret
        exact ⟨rfl, HB4.out⟩
end Go.Proofs.Ytamkahjdedomlaa
