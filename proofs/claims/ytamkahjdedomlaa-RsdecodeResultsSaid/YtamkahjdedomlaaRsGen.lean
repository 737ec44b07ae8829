/-
  The walk of reedsolomon.Generator.
-/
import Derived.Test.YtamkahjdedomlaaPMul
import Derived.Test.YtamkahjdedomlaaEx
namespace Go.Proofs.Ytamkahjdedomlaa
open Go.RowKit
set_option linter.unusedVariables false

theorem Sl.some {w : World} {B : Nat} {v : Value} {l : List UInt8} (h : Sl w B v l) (hne : l ≠ []) : ∃ g cap, v = .slice (Option.some ⟨g, 0, none⟩) l.length cap ∧ l.length ≤ cap ∧ cap ≤ maxLen ∧ B ≤ g ∧ Cells w g l := by
  rcases h with ⟨_, _, _, e⟩ | ⟨g, cap, h1, _, h3, h4, h5, h6⟩
  · exact absurd e hne
  · exact ⟨g, cap, h1, h3, h4, h5, h6⟩
theorem exp_nat (i : Nat) (hi : i < 255) (w : World) : Calls Try.prog 27 #[.int .i64 i] w fun e w' => e = .returned (.int .u8 (F.expB i).toNat) ∧ Below w.heap.size w w' := by
  have := exp_any i (by omega) (by omega) w
  rwa [F.red_nat i hi] at this
theorem cells_two (w : World) (a b : UInt8) (t : TypeId) : Cells (w.alloc (.cells #[.int .u8 a.toNat, .int .u8 b.toNat] t)) w.heap.size [a, b] := by
  refine ⟨by simp, fun i hi => ?_⟩
  have hi' : i < 2 := hi
  refine ⟨?_, by rw [World.frozen?_alloc_mark, decide_eq_false (by omega : ¬ i < 0), Bool.and_false]⟩
  rw [World.cell?_alloc_mark]
  match i, hi' with
  | 0, _ => rfl
  | 1, _ => rfl
theorem cells_one (w : World) (a : UInt8) (t : TypeId) : Cells (w.alloc (.cells #[.int .u8 a.toNat] t)) w.heap.size [a] := by
  refine ⟨by simp, fun i hi => ?_⟩
  have hi' : i < 1 := hi
  refine ⟨?_, by rw [World.frozen?_alloc_mark, decide_eq_false (by omega : ¬ i < 0), Bool.and_false]⟩
  rw [World.cell?_alloc_mark]
  obtain rfl : i = 0 := by omega
  rfl

theorem gen_bad (p : Int) (h : p < 1 ∨ 64 < p) (w : World) : Calls Try.prog 41 #[.int .i64 p] w fun e w' => e = .returned (.tuple #[.slice none 0 0, .int .i64 2]) ∧ w = w' := by
  by_cases h1 : p < 1
  · go_enter Try.func41, Try.ntmps41
    go_wp2
    go_ret2
    exact ⟨rfl, rfl⟩
  · have h2 : 64 < p := by omega
    go_enter Try.func41, Try.ntmps41
    go_wp2
    go_ret2
    exact ⟨rfl, rfl⟩

set_option maxHeartbeats 1000000 in
theorem gen_ok (p : Nat) (h1 : 1 ≤ p) (h2 : p ≤ 64) (w : World) : Calls Try.prog 41 #[.int .i64 p] w
    fun e w' => ∃ g cap, e = .returned (.tuple #[.slice (some ⟨g, 0, none⟩) (p + 1) cap, .int .i64 0]) ∧ w.heap.size ≤ g ∧ Cells w' g (genB p) ∧ p + 1 ≤ cap ∧ cap ≤ maxLen ∧ Below w.heap.size w w' := by
  go_enter Try.func41, Try.ntmps41
  go_wp2
  go_loopw [4, 14] (fun v i wr => ∃ (k g cap : Nat), k ≤ p ∧ i = .int .i64 k ∧ v = .slice (some ⟨g, 0, none⟩) (k + 1) cap ∧ w.heap.size ≤ g ∧ Cells wr g (genB k) ∧ k + 1 ≤ cap ∧ cap ≤ maxLen ∧ Below w.heap.size w wr) (fun _ i _ => p - (intOf i).toNat)
  case atStart =>
    exact ⟨0, w.heap.size, 1, by omega, rfl, rfl, Nat.le_refl _, cells_one w 1 _, by omega, by unfold maxLen; omega, (Below.refl _ _).alloc (Nat.le_refl _) _⟩
  case round =>
    obtain ⟨k, g, cap, hk, rfl, rfl, hg, hC, hcap, hcm, hB⟩ := hrel
    by_cases hlt : k < p
    · have HC := Lib.hid hC
      have HB := Lib.hid hB
      have HL := Lib.hid (gen_len k)
      clear hC hB
      go_wp2_with fail
      refine (exp_nat k (by omega) _).mono ?_
      rintro e w1 ⟨rfl, hb1⟩
      go_wp2_with fail
      have hp1 : Cells (w1.alloc (.cells #[.int .u8 (F.expB k).toNat, .int .u8 1] 5)) g (genB k) := (HC.out.kept hb1).alloc _
      have hp2 : Cells (w1.alloc (.cells #[.int .u8 (F.expB k).toNat, .int .u8 1] 5)) w1.heap.size [F.expB k, 1] := cells_two w1 _ 1 _
      have hcall := pmul_some g w1.heap.size cap 2 (genB k) [F.expB k, 1] _ hp1 hp2 (by rw [HL.out]; omega) (by simp)
      rw [HL.out] at hcall
      refine hcall.mono ?_
      rintro e w2 ⟨v', rfl, hs, hb2⟩
      obtain ⟨g', cap', rfl, c1, c2, c3, c4⟩ := hs.some (by intro e; have := gen_len (k + 1); rw [show genB (k + 1) = pmul (genB k) [F.expB k, 1] from rfl, e] at this; simp at this)
      have hB2 : Below w.heap.size w w2 := by
        have hz := hb1.size
        have hz0 := HB.out.size
        exact (HB.out.trans (hb1.mono hz0)).trans ((((Below.refl _ w1).alloc (Nat.le_refl _) _).mono (by omega)).trans (hb2.mono (by simp; omega)))
      have hlen : (pmul (genB k) [F.expB k, 1]).length = k + 1 + 1 := gen_len (k + 1)
      rw [hlen] at c1 ⊢
      have hg' : w.heap.size ≤ g' := by have := hb1.size; have := HB.out.size; simp at c3; omega
      clear hcall hp1 hp2 hs hb1 hb2 hlen
      go_wp2
      go_roundw
      case rel => exact ⟨k + 1, g', cap', by omega, by go_num, rfl, hg', c4, c1, c2, hB2⟩
      case measure => simp [intOf] <;> omega
    · obtain rfl : k = p := by omega
      go_wp2
      go_ret2
      exact ⟨g, cap, rfl, hg, hC, hcap, hcm, hB⟩
end Go.Proofs.Ytamkahjdedomlaa
