/-
  The walk of the law ReedsolomonShortens.
-/
import Derived.Test.YtjepedejclfnmaaRsPre
namespace Go.Proofs.Ytjepedejclfnmaa
open Go.RowKit
set_option linter.unusedVariables false

set_option maxRecDepth 100000 in
set_option maxHeartbeats 1000000 in
theorem reedsolomonShortens.walk (s : ByteArray) (w0 : s.size ≤ maxLen) (q : Int) (w1 : (Lit.int .u8 q).wf = true) (k : Int) (w2 : (Lit.int .u8 k).wf = true) (w : World) :
    Calls Try.prog 8 #[.string s, .int .u8 q, .int .u8 k] w fun e w' => e = .returned (.bool true) ∧ Below w.heap.size w w' := by
  obtain ⟨Q, hQ, rfl⟩ := u8_of w1
  obtain ⟨Z, hZ, rfl⟩ := u8_of w2
  obtain ⟨p, n, X, Y, h1, h2, h3, hp, hn, hX, hY, hXs, hYs, hla, hlb, hw⟩ := words_use s s w0 w0 Q hQ
  obtain ⟨z, hz⟩ : ∃ z, min Z (255 - (n + p)) = z := ⟨_, rfl⟩
  obtain ⟨S, hS⟩ : ∃ S, s.extract 0 n = S := ⟨_, rfl⟩
  have hSd : S.data.toList = s.data.toList.take n := by rw [← hS]; exact take_extract s n
  have hSs : S.size = n := by rw [← hla, ← hSd]; rfl
  obtain ⟨Fr, hF⟩ : ∃ Fr : ByteArray, ⟨(List.replicate z (0 : UInt8)).toArray⟩ = Fr := ⟨_, rfl⟩
  have hFd : Fr.data.toList = List.replicate z 0 := by rw [← hF]
  have hFs : Fr.size = z := by rw [← List.length_replicate (n := z) (a := (0 : UInt8)), ← hFd]; rfl
  have e1 : IntKind.i64.wrap ((X.size : Int) - p) = n := by rw [show (X.size : Int) - p = n by omega]; exact IntWalk.i64_in _ (by omega)
  have e2 : IntKind.i64.wrap (255 - (X.size : Int)) = 255 - (X.size : Int) := IntWalk.i64_in _ (by omega)
  have e3 : (if (255 : Int) - X.size < Z then 255 - (X.size : Int) else Z) = z := by split <;> omega
  have e4 : (n : Int) ≤ s.size := by omega
  have e5 : ¬ 9223372036854775807 < Fr.size + S.size := by omega
  have e6 : ¬ 9223372036854775807 < Fr.size + X.size := by omega
  have hz2 : z ≤ 255 := by omega
  have henc := fun w => enc_str (Fr ++ S) (Fr ++ X) (List.replicate z 0 ++ s.data.toList.take n) p (z + n)
    (show _ = _ by apply ba_ext; rw [ByteArray.data_append, Array.toList_append, hFd, hX]; exact enc_front z _ p)
    (by rw [ByteArray.data_append, Array.toList_append, hFd, hSd]) (show _ = _ by rw [List.length_append, List.length_replicate, hla]) h1 h2 (by omega) w
  have HW := Lib.hid hw
  have HE := Lib.hid henc
  have HF := Lib.hid hF
  clear hX hY hXs hYs hla hlb hw hn w0 w1 w2 hp henc hF hFd hFs hSd hSs hz
  go_enter Try.func8, Try.ntmps8
  go_wp2_with fail
  refine (HW.out _).mono ?_
  rintro e w1 ⟨rfl, hB1⟩
  have HB1 := Lib.hid hB1
  clear hB1
  go_wp2_with (at_make; refine wpList_make_bytes rfl _ _ 22 5 rfl Try.underlying22 Try.infoU8 z (by go_num) (by go_num) (by omega) ?_; intro w2 hC2 hB2 hz2'; have hst := run_str (P := Try.prog) w2 22 9 5 w1.heap.size z z _ Try.underlying22 Try.underlying5 Try.underlying9 hC2 (List.length_replicate ..); rw [HF.out] at hst)
  have HB2 := Lib.hid (bt HB1.out hB2)
  clear hB2 hC2 hz2'
  go_wp2_with fail
  refine (HE.out _).mono ?_
  rintro e w3 ⟨rfl, hB3⟩
  have HB3 := Lib.hid (bt HB2.out hB3)
  clear hB3
  go_wp2_with fail
  refine (awake_any _).mono ?_
  rintro e w4 ⟨rfl, hB4⟩
  have HB4 := Lib.hid (bt HB3.out hB4)
  clear hB4
  go_wp2
  go_ret
  exact ⟨rfl, HB4.out⟩
end Go.Proofs.Ytjepedejclfnmaa
