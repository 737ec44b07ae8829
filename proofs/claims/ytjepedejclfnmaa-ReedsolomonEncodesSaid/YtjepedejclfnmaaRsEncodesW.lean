/-
  The walk of the law ReedsolomonEncodes.
-/
import Derived.Test.YtjepedejclfnmaaRsAw
import Derived.Test.YtjepedejclfnmaaCwPlain
namespace Go.Proofs.Ytjepedejclfnmaa
open Go.RowKit
set_option linter.unusedVariables false

theorem ba_ext {a b : ByteArray} (h : a.data.toList = b.data.toList) : a = b := by
  apply ByteArray.ext; exact Array.ext' h
theorem enc_front_str {l : List UInt8} {p n : Nat} {X : ByteArray} (hX : (⟨(encB l p).toArray⟩ : ByteArray) = X) (hl : l.length = n) : (X.extract 0 n).data.toList = l := by
  rw [take_extract, ← hX]
  show (encB l p).take n = l
  unfold encB
  rw [← hl, List.take_left']; rfl
theorem enc_codeword {l : List UInt8} {p n : Nat} {X : ByteArray} (hX : (⟨(encB l p).toArray⟩ : ByteArray) = X) (hl : l.length = n) (h1 : 1 ≤ p) (h2 : p ≤ 64) (h3 : n + p ≤ 255) (w : World) :
    Calls Try.prog 19 #[.string X, .int .i64 p] w fun e w' => e = .returned (.bool true) ∧ Below w.heap.size w w' := by
  have hs := enc_size hX hl
  have := iscw_any X p (by omega) (by unfold maxLen; omega) w
  rw [show X.data.toList = encB l p by rw [← hX], Int.toNat_natCast, enc_isCw l p h1 h2 (by omega), decide_eq_true (by omega : (1 : Int) ≤ p)] at this
  exact this

set_option maxRecDepth 100000 in
set_option maxHeartbeats 1000000 in
theorem reedsolomonEncodes.walk (s : ByteArray) (w0 : s.size ≤ maxLen) (q : Int) (w1 : (Lit.int .u8 q).wf = true) (w : World) :
    Calls Try.prog 4 #[.string s, .int .u8 q] w fun e w' => e = .returned (.bool true) ∧ Below w.heap.size w w' := by
  obtain ⟨Q, hQ, rfl⟩ : ∃ Q : Nat, Q < 256 ∧ q = Q := by
    have h := w1
    simp only [Lit.wf, Bool.and_eq_true, decide_eq_true_eq] at h
    have h1 : (0 : Int) ≤ q := h.1
    have h2 : q ≤ 255 := h.2
    exact ⟨q.toNat, by omega, by omega⟩
  clear w1
  obtain ⟨p, hp⟩ : ∃ p, Q % 64 + 1 = p := ⟨_, rfl⟩
  obtain ⟨n, hn⟩ : ∃ n, min (min s.size s.size) (255 - p) = n := ⟨_, rfl⟩
  have hw := words_any s s Q w0 w0 hQ w p n hp.symm hn.symm
  have h1 : 1 ≤ p := by omega
  have h2 : p ≤ 64 := by omega
  have h3 : n + p ≤ 255 := by omega
  have hla : (s.data.toList.take n).length = n := by rw [List.length_take]; show min n s.size = n; omega
  obtain ⟨X, hX⟩ : ∃ X : ByteArray, ⟨(encB (s.data.toList.take n) p).toArray⟩ = X := ⟨_, rfl⟩
  rw [hX] at hw
  have hXs := enc_size hX hla
  have hcw := fun w => enc_codeword hX hla h1 h2 h3 w
  have hfr := enc_front_str hX hla
  have e1 : IntKind.i64.wrap ((X.size : Int) - p) = n := by rw [show (X.size : Int) - p = n by omega]; exact IntWalk.i64_in _ (by omega)
  have e2 : IntKind.i64.wrap (255 - (p : Int)) = 255 - p := IntWalk.i64_in _ (by omega)
  have hcase : (n = s.size ∧ (s.size : Int) ≤ 255 - p) ∨ (n = 255 - p ∧ ¬ (s.size : Int) ≤ 255 - p) := by omega
  have HW := Lib.hid hw
  have HCW := Lib.hid hcw
  have e3 : (n : Int) ≤ X.size := by omega
  have e4 : (n : Int) ≤ s.size := by omega
  have hXn : X.extract 0 n = s.extract 0 n := ba_ext (by rw [hfr, take_extract])
  have hXn' : n = s.size → X.extract 0 s.size = s := fun e => by
    rw [← e, hXn, e]; exact ba_ext (by rw [take_extract, List.take_of_length_le (by exact Nat.le_refl _)])
  clear hX hw hcw hla hp hn hfr w0
  rcases hcase with ⟨d1, d2⟩ | ⟨d1, d2⟩
  · subst d1
    have hXn := hXn' rfl
    have dm : (if 255 - (p : Int) < s.size then 255 - (p : Int) else s.size) = s.size := if_neg (by omega)
    clear hXn' hXs
    go_enter Try.func4, Try.ntmps4
    go_wp2_with fail
    refine HW.out.mono ?_
    rintro e w1 ⟨rfl, hB1⟩
    have HB1 := Lib.hid hB1
    clear hB1
    go_wp2_with fail
    go_still_tail 22, (by kernel_rfl)
    change wpList _ _ _ _ _ w1.drew
    go_wp2_with fail
    refine (HCW.out _).mono ?_
    rintro e w2 ⟨rfl, hB2⟩
    have HB2 := Lib.hid (bt HB1.out.drew hB2)
    clear hB2
    go_wp2_with fail
    refine (awake_any _).mono ?_
    rintro e w3 ⟨rfl, hB3⟩
    have HB3 := Lib.hid (bt HB2.out hB3)
    clear hB3
    go_wp2
    go_ret
    exact ⟨rfl, HB3.out⟩
  · subst d1
    have dm : (if 255 - (p : Int) < s.size then 255 - (p : Int) else s.size) = 255 - p := if_pos (by omega)
    have d3 : ((255 : Int) - p).toNat = 255 - p := by omega
    have d4 : IntKind.i64.wrap ((X.size : Int) - p) = 255 - p := by rw [e1]; omega
    have d5 : (255 : Int) - p ≤ X.size := by omega
    have d6 : (255 : Int) - p ≤ s.size := by omega
    have d7 : (p : Int) ≤ 255 := by omega
    clear hXn' e1 e3 e4 hXs
    go_enter Try.func4, Try.ntmps4
    go_wp2_with fail
    refine HW.out.mono ?_
    rintro e w1 ⟨rfl, hB1⟩
    have HB1 := Lib.hid hB1
    clear hB1
    go_wp2_with fail
    go_still_tail 22, (by kernel_rfl)
    change wpList _ _ _ _ _ w1.drew
    go_wp2_with fail
    refine (HCW.out _).mono ?_
    rintro e w2 ⟨rfl, hB2⟩
    have HB2 := Lib.hid (bt HB1.out.drew hB2)
    clear hB2
    go_wp2_with fail
    refine (awake_any _).mono ?_
    rintro e w3 ⟨rfl, hB3⟩
    have HB3 := Lib.hid (bt HB2.out hB3)
    clear hB3
    go_wp2
    go_ret
    exact ⟨rfl, HB3.out⟩
end Go.Proofs.Ytjepedejclfnmaa
