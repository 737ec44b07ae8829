/-
  The walk of the reference's Syndromes.
-/
import Derived.Test.YtjepedejclfnmaaRsPre
namespace Go.Proofs.Ytjepedejclfnmaa
open Go.RowKit
set_option linter.unusedVariables false

theorem rsyn_range (s : ByteArray) (p : Int) (h : p < 1 ∨ 64 < p) (w : World) : Calls Try.prog 16 #[.string s, .int .i64 p] w fun e w' => e = .returned (.tuple #[.slice none 0 0, .int .i64 2]) ∧ w = w' := by
  by_cases h1 : p < 1
  · go_enter Try.func16, Try.ntmps16
    go_wp2
    go_ret2
    exact ⟨rfl, rfl⟩
  · have h2 : 64 < p := by omega
    go_enter Try.func16, Try.ntmps16
    go_wp2
    go_ret2
    exact ⟨rfl, rfl⟩
theorem rsyn_short (s : ByteArray) (p : Nat) (h1 : 1 ≤ p) (h2 : p ≤ 64) (h3 : s.size < p) (w : World) : Calls Try.prog 16 #[.string s, .int .i64 p] w fun e w' => e = .returned (.tuple #[.slice none 0 0, .int .i64 4]) ∧ w = w' := by
  go_enter Try.func16, Try.ntmps16
  go_wp2
  go_ret2
  exact ⟨rfl, rfl⟩
theorem rsyn_long (s : ByteArray) (p : Nat) (h1 : 1 ≤ p) (h2 : p ≤ 64) (h3 : 255 < s.size) (w : World) : Calls Try.prog 16 #[.string s, .int .i64 p] w fun e w' => e = .returned (.tuple #[.slice none 0 0, .int .i64 6]) ∧ w = w' := by
  go_enter Try.func16, Try.ntmps16
  go_wp2
  go_ret2
  exact ⟨rfl, rfl⟩

set_option maxHeartbeats 2000000 in
theorem rsyn_ok (s : ByteArray) (p : Nat) (h1 : 1 ≤ p) (h2 : p ≤ 64) (h3 : p ≤ s.size) (h4 : s.size ≤ 255) (w : World) : Calls Try.prog 16 #[.string s, .int .i64 p] w
    fun e w' => ∃ v, e = .returned (.tuple #[v, .int .i64 0]) ∧ Sl w' w.heap.size v (synB s.data.toList p) ∧ Below w.heap.size w w' := by
  obtain ⟨l, hl⟩ : ∃ l, s.data.toList = l := ⟨_, rfl⟩
  have hval := fun (x : UInt8) (w : World) => rvalue_any s x (by omega) w
  rw [hl] at hval ⊢
  have hX : ∀ k, k < p → (synB l p).take (k + 1) = (synB l p).take k ++ [horn l (F.expB k)] := by
    intro k hk
    rw [List.take_add_one]
    congr 1
    have := synB_at l p k hk
    rw [List.getElem?_eq_getElem (by rw [synB_len]; exact hk)] at this ⊢
    rw [← this]; rfl
  have hXn : (synB l p).take p = synB l p := List.take_of_length_le (by rw [synB_len]; exact Nat.le_refl _)
  have hXl : ∀ k, k ≤ p → ((synB l p).take k).length = k := by intro k hk; rw [List.length_take, synB_len]; omega
  obtain ⟨X, hXX⟩ : ∃ X, synB l p = X := ⟨_, rfl⟩
  rw [hXX] at hX hXn hXl ⊢
  have HX := Lib.hid hX
  have HXN := Lib.hid hXn
  have HXL := Lib.hid hXl
  have HV := Lib.hid hval
  clear hl hX hXn hXl hXX hval
  have d1 : decide (s.size < p) = false := decide_eq_false (by omega)
  have d2 : decide (255 < s.size) = false := decide_eq_false (by omega)
  have d3 : decide ((p : Int) < 1) = false := decide_eq_false (by omega)
  have d4 : decide ((64 : Int) < p) = false := decide_eq_false (by omega)
  go_enter Try.func16, Try.ntmps16
  go_wp2
  go_loopw [6, 7] (fun y i wr => ∃ k : Nat, k ≤ p ∧ i = .int .i64 k ∧ wr.ownsRow w.heap.size 5 1 y k ((X.take k).map u8v) ∧ Below w.heap.size w wr) (fun _ i _ => p - (intOf i).toNat)
  case atStart =>
    refine ⟨0, Nat.zero_le _, rfl, ?_, (Below.refl _ w).alloc (Nat.le_refl _) _⟩
    exact World.ownsRow_lit w #[] 0 (Nat.le_refl _) (by unfold maxLen; omega) rfl
  case round =>
    obtain ⟨k, hk, rfl, hO, hB⟩ := hrel
    by_cases hlt : k < p
    · have hst := HX.out k hlt
      obtain ⟨r, hr⟩ : ∃ r, horn l (F.expB k) = r := ⟨_, rfl⟩
      rw [hr] at hst
      have HR := Lib.hid hr
      have HST := Lib.hid hst
      have HO := Lib.hid hO
      have HB := Lib.hid hB
      have hbz := hB.size
      clear hr hst hO hB
      go_wp2_with fail
      refine (rpow_any k (by omega) _).mono ?_
      rintro e w' ⟨rfl, rfl⟩
      go_wp2_with fail
      refine (HV.out (F.expB k) _).mono ?_
      rintro e w' ⟨rfl, m, rfl⟩
      rw [HR.out]
      go_wp2_with (at_builtin; refine wpList_append_bytes rfl _ _ 22 5 rfl Try.underlying22 Try.infoU8 w.heap.size u6 (X.take k) (by rfl) ?h1 ?h2 wr.heap.size 1 1 [r] (by rfl) rfl ?h3 ?h4 ?_)
      case h1 =>
        have hO2 : (wr.drewN m).ownsRow w.heap.size 5 1 u6 k ((X.take k).map u8v) := HO.out
        rw [HXL.out k hk]; exact hO2.alloc _
      case h2 => simp; omega
      case h3 => exact cells_one (wr.drewN m) r _
      case h4 => rw [HXL.out k hk]; simp; omega
      intro v' w2 hown hgr
      have hmin : min k X.length = k := by have := HXL.out k hk; rwa [List.length_take] at this
      rw [hmin] at hown
      have hown : w2.ownsRow w.heap.size 5 1 v' (k + 1) ((X.take (k + 1)).map u8v) := by
        rw [HST.out, List.map_append, List.map_take]; exact hown
      have hb2 : Below w.heap.size w w2 := ((below_drewN HB.out m).alloc hbz _).trans ((Below.refl w.heap.size _).grown hgr (by simp; omega) (fun j hj => ((HO.out).lt j hj).1))
      clear hgr
      go_wp2
      go_roundw
      case rel => exact ⟨k + 1, by omega, by go_num, hown, hb2⟩
      case measure => simp [intOf] <;> omega
    · obtain rfl : k = p := by omega
      have hsl : Sl wr w.heap.size u6 X := by
        have h0 := HXL.out k (Nat.le_refl _)
        rw [HXN.out] at hO h0
        exact sl_of_owns (e := 5) (by rw [h0]; exact hO)
      have HB := Lib.hid hB
      have HS := Lib.hid hsl
      clear hO hB hsl
      go_wp2
      go_ret2
      exact ⟨_, rfl, HS.out, HB.out⟩
end Go.Proofs.Ytjepedejclfnmaa
