/-
  The walk of the law ReedsolomonDistance.
-/
import Derived.Test.YtjepedejclfnmaaRsPre
namespace Go.Proofs.Ytjepedejclfnmaa
open Go.RowKit
set_option linter.unusedVariables false

set_option maxRecDepth 100000 in
set_option maxHeartbeats 1000000 in
theorem reedsolomonDistance.walk (a : ByteArray) (w0 : a.size ≤ maxLen) (b : ByteArray) (w1 : b.size ≤ maxLen) (q : Int) (w2 : (Lit.int .u8 q).wf = true) (w : World) :
    Calls Try.prog 6 #[.string a, .string b, .int .u8 q] w fun e w' => e = .returned (.bool true) ∧ Below w.heap.size w w' := by
  obtain ⟨Q, hQ, rfl⟩ := u8_of w2
  obtain ⟨p, n, X, Y, h1, h2, h3, hp, hn, hX, hY, hXs, hYs, hla, hlb, hw⟩ := words_use a b w0 w1 Q hQ
  have hd := fun w => differ_any X Y (n + p) hXs hYs (by omega) w
  have hfar : X ≠ Y → p < cntTo X.data.toList Y.data.toList (n + p) := by
    intro hne
    rw [Nat.lt_iff_add_one_le, ← Nat.not_lt]
    intro hc
    refine hne (ba_ext ?_)
    refine cw_unique _ _ p ?_ ?_ ?_ ?_ ?_
    · rw [hX, hY, encB_len, encB_len, hla, hlb]
    · rw [hX, encB_len, hla]; exact h3
    · rw [hX]; exact fun i hi => enc_root _ p i h1 hi
    · rw [hY]; exact fun i hi => enc_root _ p i h1 hi
    · rw [diffs_len, show X.data.toList.length = n + p by rw [hX, encB_len, hla]]; omega
  obtain ⟨c, hc⟩ : ∃ c, cntTo X.data.toList Y.data.toList (n + p) = c := ⟨_, rfl⟩
  rw [hc] at hd hfar
  have HW := Lib.hid hw
  have HD := Lib.hid hd
  clear hX hY hXs hYs hla hlb hw hd hc hn w0 w1 w2 hp
  by_cases he : X = Y
  · subst he
    clear hfar
    go_enter Try.func6, Try.ntmps6
    go_wp2_with fail
    refine (HW.out _).mono ?_
    rintro e w1 ⟨rfl, hB1⟩
    have HB1 := Lib.hid hB1
    clear hB1
    go_wp2_with fail
    refine (awake_any _).mono ?_
    rintro e w3 ⟨rfl, hB3⟩
    have HB3 := Lib.hid (bt HB1.out hB3)
    clear hB3
    go_wp2
    go_ret
    exact ⟨rfl, HB3.out⟩
  · have hlt := hfar he
    have hne := str_ne he
    have hgt : ((p : Int) < c) := by omega
    clear hfar
    go_enter Try.func6, Try.ntmps6
    go_wp2_with fail
    refine (HW.out _).mono ?_
    rintro e w1 ⟨rfl, hB1⟩
    have HB1 := Lib.hid hB1
    clear hB1
    go_wp2_with fail
    refine (HD.out _).mono ?_
    rintro e w2 ⟨rfl, m, hm⟩
    have HB2 : Hid (Below w.heap.size w w2) := by rw [hm]; exact below_drewN HB1.out _
    clear hm
    go_wp2_with fail
    refine (awake_any _).mono ?_
    rintro e w3 ⟨rfl, hB3⟩
    have HB3 := Lib.hid (bt HB2.out hB3)
    clear hB3
    go_wp2
    go_ret
    exact ⟨rfl, HB3.out⟩
end Go.Proofs.Ytjepedejclfnmaa
