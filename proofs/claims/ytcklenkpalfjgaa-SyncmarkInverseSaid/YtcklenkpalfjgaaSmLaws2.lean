/-
  The walk of the law SyncmarkFirst.
-/
import Derived.Test.YtcklenkpalfjgaaSmLaws1
import Derived.Test.YtcklenkpalfjgaaSmPlain2
namespace Go.Proofs.Ytcklenkpalfjgaa
open Go.RowKit
set_option linter.unusedVariables false

theorem find_found (s : ByteArray) (k : Nat) (a : Int) (i : Nat) (w : World) (hs : s.size ≤ maxLen) (ha : a = k) (hk : k ≤ 9223372036854775807) (h : Hid (Sm.Found s k i)) :
    Calls Try.prog 11 #[.string s, .int .i64 a] w fun e w' => e = .returned (.tuple #[.int .i64 i, .bool true]) ∧ Below w.heap.size w w' := by
  have := find_any s k a w hs (by omega) hk
  rwa [Sm.find_of_found s k i h.out] at this
theorem find_nowhere (s : ByteArray) (k : Nat) (a : Int) (w : World) (hs : s.size ≤ maxLen) (ha : a = k) (hk : k ≤ 9223372036854775807) (h : Hid (Sm.Nowhere s k)) :
    Calls Try.prog 11 #[.string s, .int .i64 a] w fun e w' => e = .returned (.tuple #[.int .i64 0, .bool false]) ∧ Below w.heap.size w w' := by
  have := find_any s k a w hs (by omega) hk
  rwa [Sm.find_of_nowhere s k h.out] at this
theorem distance_nat (s : ByteArray) (k : Nat) (a : Int) (w : World) (hs : s.size ≤ maxLen) (ha : a = k) (hk : k ≤ 9223372036854775807) :
    Calls Try.prog 13 #[.string s, .int .i64 a] w fun e w' => e = .returned (.int .i64 (Sm.dist s k)) ∧ Below w.heap.size w w' := by
  subst ha
  exact (distance_any s k w hs (by omega) (by omega)).mono fun e w' ⟨h, n, hw⟩ => ⟨h, by rw [hw]; exact below_drewN (Below.refl _ _) n⟩

set_option maxHeartbeats 400000 in
theorem syncmarkFirst.walk (s : ByteArray) (w0 : s.size ≤ maxLen) (x : Int) (w1 : (Lit.int .u8 x).wf = true) (w : World) :
    Calls Try.prog 4 #[.string s, .int .u8 x] w fun e w' => e = .returned (.bool true) ∧ Below w.heap.size w w' := by
  have wb := bounds_u8 w1
  clear w1
  obtain ⟨a, rfl⟩ : ∃ a : Nat, x = a := ⟨x.toNat, by omega⟩
  have w0' := w0
  unfold maxLen at w0
  by_cases hz : s.size ≤ 2000
  · rcases Sm.find_cases s _ a rfl with ⟨i, _, hf⟩ | ⟨_, hf⟩
    · have h1 := hf.1
      have h2 := hf.2.1
      have h3 := hf.2.2.1
      have hd1 : decide (i < a) = false := decide_eq_false (by omega)
      have hd2 : decide ((s.size : Int) < (i : Int) + 16) = false := decide_eq_false (by omega)
      have HF := Lib.hid hf; clear hf
      go_enter Try.func4, Try.ntmps4
      go_wp2_with (first
        | (go_at_call 10; refine (alive_any _).mono ?_; rintro e w1 ⟨rfl, hb1⟩)
        | (go_at_call 11; refine (find_found s a _ i _ w0' rfl (by omega) HF).mono ?_; rintro e w2 ⟨rfl, hb2⟩)
        | (go_at_call 13; refine (distance_nat s i _ _ w0' rfl (by omega)).mono ?_; rintro e w3 ⟨rfl, hb3⟩))
      have hB : Below w.heap.size w w3 := (hb1.trans (hb2.mono hb1.size)).trans (hb3.mono (Nat.le_trans hb1.size hb2.size))
      go_loopw [8] (fun v wr => ∃ k : Nat, a ≤ k ∧ k ≤ i ∧ v = .int .i64 k ∧ Below w.heap.size w wr) (fun v _ => i - (intOf v).toNat)
      case atStart => exact ⟨a, Nat.le_refl _, h1, rfl, hB⟩
      case round =>
        obtain ⟨k, hk1, hk2, rfl, hBr⟩ := hrel
        by_cases hlt : k < i
        · have h4 := HF.out.2.2.2 k hk1 hlt
          go_wp2_with (go_at_call 13; refine (distance_nat s k _ _ w0' rfl (by omega)).mono ?_; rintro e w4 ⟨rfl, hb4⟩)
          go_roundw
          case rel => exact ⟨k + 1, by omega, by omega, by go_num, hBr.trans (hb4.mono hBr.size)⟩
          case measure => simp [intOf]; omega
        · go_wp2
          go_ret
          exact ⟨rfl, hBr⟩
    · have HF := Lib.hid hf; clear hf
      go_enter Try.func4, Try.ntmps4
      go_wp2_with (first
        | (go_at_call 10; refine (alive_any _).mono ?_; rintro e w1 ⟨rfl, hb1⟩)
        | (go_at_call 11; refine (find_nowhere s a _ _ w0' rfl (by omega) HF).mono ?_; rintro e w2 ⟨rfl, hb2⟩))
      have hB : Below w.heap.size w w2 := (hb1.trans (hb2.mono hb1.size))
      go_loopw [8] (fun v wr => ∃ k : Nat, a ≤ k ∧ k ≤ 3000 ∧ v = .int .i64 k ∧ Below w.heap.size w wr) (fun v _ => 3000 - (intOf v).toNat)
      case atStart => exact ⟨a, Nat.le_refl _, by omega, rfl, hB⟩
      case round =>
        obtain ⟨k, hk1, hk2, rfl, hBr⟩ := hrel
        by_cases hlt : (k : Int) < (s.size : Int) - 15
        · have h4 := HF.out k hk1 (by omega)
          go_wp2_with (go_at_call 13; refine (distance_nat s k _ _ w0' rfl (by omega)).mono ?_; rintro e w4 ⟨rfl, hb4⟩)
          go_roundw
          case rel => exact ⟨k + 1, by omega, by omega, by go_num, hBr.trans (hb4.mono hBr.size)⟩
          case measure => simp [intOf]; omega
        · go_wp2
          go_ret
          exact ⟨rfl, hBr⟩
  · go_enter Try.func4, Try.ntmps4
    go_wp2_with (go_at_call 10; refine (alive_any _).mono ?_; rintro e w1 ⟨rfl, hb1⟩)
    go_ret
    exact ⟨rfl, hb1⟩
end Go.Proofs.Ytcklenkpalfjgaa
