/-
  The walk of reedsolomon.Encode.
-/
import Derived.Test.YtjepedejclfnmaaLf
namespace Go.Proofs.Ytjepedejclfnmaa
open Go.RowKit
set_option linter.unusedVariables false

theorem ret_si {a b : ByteArray} {x : Int} (h : a = b) : Ending.returned (.tuple #[.string a, .int .i64 x]) = .returned (.tuple #[.string b, .int .i64 x]) := by rw [h]
theorem enc_bad (s : ByteArray) (p : Int) (h : p < 1 ∨ 64 < p) (w : World) : Calls Try.prog 13 #[.string s, .int .i64 p] w fun e w' => e = .returned (.tuple #[.string ⟨#[]⟩, .int .i64 2]) ∧ w = w' := by
  go_enter Try.func13, Try.ntmps13
  go_wp2_with fail
  refine (gen_bad p h _).mono ?_
  rintro e w' ⟨rfl, rfl⟩
  go_wp2
  go_ret2
  exact ⟨rfl, rfl⟩
theorem enc_long (s : ByteArray) (p : Nat) (h1 : 1 ≤ p) (h2 : p ≤ 64) (h3 : 255 < s.size + p) (hs : s.size ≤ 9223372036854775000) (w : World) : Calls Try.prog 13 #[.string s, .int .i64 p] w fun e w' => e = .returned (.tuple #[.string ⟨#[]⟩, .int .i64 6]) ∧ Below w.heap.size w w' := by
  have e1 : IntKind.i64.wrap ((s.size : Int) + p) = (s.size : Int) + p := IntWalk.i64_in _ (by omega)
  have e2 : (255 : Int) < (s.size : Int) + p := by omega
  go_enter Try.func13, Try.ntmps13
  go_wp2_with fail
  refine (gen_ok p h1 h2 _).mono ?_
  rintro e w1 ⟨g, cap, rfl, hg, hC, hc1, hc2, hB⟩
  have HC := Lib.hid hC
  have HB := Lib.hid hB
  clear hC hB
  go_wp2
  go_ret2
  exact ⟨rfl, HB.out⟩
set_option maxRecDepth 100000 in
set_option maxHeartbeats 1000000 in
theorem enc_ok (s : ByteArray) (p : Nat) (h1 : 1 ≤ p) (h2 : p ≤ 64) (h3 : s.size + p ≤ 255) (w : World) : Calls Try.prog 13 #[.string s, .int .i64 p] w fun e w' => e = .returned (.tuple #[.string ⟨(encB s.data.toList p).toArray⟩, .int .i64 0]) ∧ Below w.heap.size w w' := by
  obtain ⟨l, hl⟩ : ∃ l, s.data.toList = l := ⟨_, rfl⟩
  rw [hl]
  have HSL : Hid (l.length = s.size) := by rw [← hl]; rfl
  have HAT : Hid (∀ k (h : k < s.size), s[k] = l[k]?.getD 0) := by
    intro k h
    rw [← hl, Array.getElem?_toList, Array.getElem?_eq_getElem (by exact h)]; rfl
  have HSA : Hid (∀ m : List UInt8, s ++ ⟨m.toArray⟩ = ⟨(l ++ m).toArray⟩) := by
    intro m
    apply ByteArray.ext
    rw [ByteArray.data_append, ← hl]
    simp
  clear hl
  have e1 : IntKind.i64.wrap ((s.size : Int) + p) = (s.size : Int) + p := IntWalk.i64_in _ (by omega)
  have e2 : decide ((255 : Int) < (s.size : Int) + p) = false := decide_eq_false (by omega)
  go_enter Try.func13, Try.ntmps13
  go_wp2_with fail
  refine (gen_ok p h1 h2 _).mono ?_
  rintro e w1 ⟨g, cap, rfl, hg, hC, hc1, hc2, hB⟩
  have HC := Lib.hid hC
  have HB := Lib.hid hB
  have HGL := Lib.hid (gen_len p)
  clear hC hB
  go_wp2_with fail
  refine (divider_any g p cap _ h1 h2).mono ?_
  rintro e w2 ⟨b0, b1, b2, b3, rfl, hb2, n0, n1, n3, c0, c1, c3, hS, hB2⟩
  have hgl : g < w1.heap.size := HC.out.1
  have hne : g ≠ b2 := by omega
  have C0 := Lib.hid c0
  have C1 := Lib.hid c1
  have C3 := Lib.hid c3
  have HS := Lib.hid hS
  have hBB : Below w.heap.size w w2 := HB.out.trans (hB2.mono HB.out.size)
  have HG := Lib.hid (HC.out.kept hB2)
  have hwb : w.heap.size ≤ b2 := Nat.le_trans HB.out.size hb2
  have HBB := Lib.hid hBB
  clear c0 c1 c3 hS hB2 hBB
  go_wp2
  go_loopw [31] (fun i wr => ∃ k : Nat, k ≤ s.size ∧ i = .int .i64 k ∧ Cells wr b2 (lfTo l (genB p) p k) ∧ Onl w.heap.size b2 w2 wr) (fun i _ => s.size - (intOf i).toNat)
  case atStart => exact ⟨0, Nat.zero_le _, rfl, HS.out, Onl.refl _ _ _⟩
  case round =>
    obtain ⟨k, hk, rfl, hC, hO⟩ := hrel
    by_cases hlt : k < s.size
    · have hsk := HAT.out k hlt
      have hst : Hid (lfTo l (genB p) p (k + 1) = lfStep (lfTo l (genB p) p k) (genB p) (l[k]?.getD 0)) := rfl
      obtain ⟨x, hx⟩ : ∃ x, l[k]?.getD 0 = x := ⟨_, rfl⟩
      rw [hx] at hsk hst
      have HCC := Lib.hid hC
      have HO := Lib.hid hO
      clear hC hO hx
      have e5 : (k : Int) < (s.size : Int) := by omega
      go_wp2_with fail
      refine (step_any w.heap.size g p cap b0 b1 b2 b3 (genB p) (lfTo l (genB p) p k) x wr h1 h2 hwb HGL.out (lfTo_len _ _ _ _) hne n0 n1 n3
        ((HO.out.cell (p := ⟨b0, 0, none⟩) n0).trans C0.out) ((HO.out.cell (p := ⟨b1, 0, none⟩) n1).trans C1.out) ((HO.out.cell (p := ⟨b3, 0, none⟩) n3).trans C3.out) (HO.out.cells HG.out hne) HCC.out).mono ?_
      rintro e w3 ⟨rfl, hC3, hO3⟩
      have HC3 := Lib.hid hC3
      have HO3 := Lib.hid (HO.out.trans hO3)
      clear hC3 hO3
      go_wp2
      go_roundw
      case rel => exact ⟨k + 1, by omega, by go_num, by rw [hst.out]; exact HC3.out, HO3.out⟩
      case measure => simp [intOf] <;> omega
    · obtain rfl : k = s.size := by omega
      have hst := run_str (P := Try.prog) wr 22 9 5 b2 p p _ Try.underlying22 Try.underlying5 Try.underlying9 hC (lfTo_len _ _ _ _)
      obtain ⟨m, hm⟩ : ∃ m, lfTo l (genB p) p s.size = m := ⟨_, rfl⟩
      rw [hm] at hst
      have hml : m.length = p := by rw [← hm]; exact lfTo_len _ _ _ _
      have hcat : ¬ 9223372036854775807 < s.size + m.length := by omega
      have HM := Lib.hid hm
      have HO := Lib.hid hO
      clear hm hC hO hml
      go_wp2
      go_ret2
      exact ⟨ret_si (by unfold encB; rw [HSL.out, HM.out, ← HSA.out]), HBB.out.trans HO.out.below⟩
end Go.Proofs.Ytjepedejclfnmaa
