/-
  The walks of the reference of layer 12, of the marks and of IsPlain.
-/
import Derived.Test.YtcklenkpalfjgaaSmFind
namespace Go.Proofs.Ytcklenkpalfjgaa
open Go.RowKit
set_option linter.unusedVariables false

theorem mark_any (w : World) : Calls Try.prog 14 #[] w fun e w' => e = .returned (.string Sm.markB) ∧ w = w' := by
  go_enter Try.func14, Try.ntmps14
  go_wp2
  go_ret
  exact ⟨rfl, rfl⟩
theorem rmark_any (w : World) : Calls Try.prog 18 #[] w fun e w' => e = .returned (.string Sm.markB) ∧ w = w' := by
  go_enter Try.func18, Try.ntmps18
  go_wp2
  go_ret
  exact ⟨rfl, rfl⟩
theorem plain_any (w : World) : Calls Try.prog 19 #[] w fun e w' => e = .returned (.string Sm.plainB) ∧ w = w' := by
  go_enter Try.func19, Try.ntmps19
  go_wp2
  go_ret
  exact ⟨rfl, rfl⟩
theorem rplain_any (w : World) : Calls Try.prog 20 #[] w fun e w' => e = .returned (.string Sm.plainB) ∧ w = w' := by
  go_enter Try.func20, Try.ntmps20
  go_wp2
  go_ret
  exact ⟨rfl, rfl⟩

theorem cell_any (s : ByteArray) (a : Int) (w : World) (hs : s.size ≤ maxLen) :
    Calls Try.prog 25 #[.string s, .int .i64 a] w fun e w' => e = .returned (.int .u8 (Sm.cellAt s a)) ∧ w = w' := by
  unfold maxLen at hs
  by_cases h1 : a < 0
  · go_enter Try.func25, Try.ntmps25
    go_wp2
    go_ret
    exact ⟨ret_u8 (Sm.cellAt_out s a (by omega)).symm, rfl⟩
  · by_cases h2 : (s.size : Int) ≤ a
    · go_enter Try.func25, Try.ntmps25
      go_wp2
      go_ret
      exact ⟨ret_u8 (Sm.cellAt_out s a (by omega)).symm, rfl⟩
    · obtain ⟨k, rfl⟩ : ∃ k : Nat, a = k := ⟨a.toNat, by omega⟩
      go_enter Try.func25, Try.ntmps25
      go_wp2
      go_ret
      exact ⟨ret_u8 (Sm.cellAt_nat s k (by omega)).symm, rfl⟩

theorem far_any (s : ByteArray) (a : Int) (w : World) (hs : s.size ≤ maxLen) :
    Calls Try.prog 24 #[.string s, .int .i64 a] w fun e w' => e = .returned (.bool (decide (a < -16 ∨ (s.size : Int) ≤ a))) ∧ w = w' := by
  unfold maxLen at hs
  by_cases h1 : a < -16
  · go_enter Try.func24, Try.ntmps24
    go_wp2
    go_ret
    exact ⟨ret_bool (decide_eq_true (Or.inl h1)).symm, rfl⟩
  · go_enter Try.func24, Try.ntmps24
    go_wp2
    go_ret
    exact ⟨ret_bool (by rw [Bool.eq_iff_iff]; simp; omega), rfl⟩
theorem far_yes (s : ByteArray) (a : Int) (w : World) (hs : s.size ≤ maxLen) (h : a < -16 ∨ (s.size : Int) ≤ a) :
    Calls Try.prog 24 #[.string s, .int .i64 a] w fun e w' => e = .returned (.bool true) ∧ w = w' := by
  have := far_any s a w hs
  rwa [decide_eq_true h] at this
theorem far_no (s : ByteArray) (a : Int) (w : World) (hs : s.size ≤ maxLen) (h : ¬ (a < -16 ∨ (s.size : Int) ≤ a)) :
    Calls Try.prog 24 #[.string s, .int .i64 a] w fun e w' => e = .returned (.bool false) ∧ w = w' := by
  have := far_any s a w hs
  rwa [decide_eq_false h] at this

theorem isplain_no (s : ByteArray) (a : Int) (w : World) (hs : s.size ≤ maxLen) (h : ¬ (0 ≤ a ∧ a + 16 ≤ s.size)) (_hb : -9223372036854775808 ≤ a) (hc : a ≤ 9223372036854775807) :
    Calls Try.prog 16 #[.string s, .int .i64 a] w fun e w' => e = .returned (.bool false) ∧ w = w' := by
  by_cases h0 : a < 0
  · unfold maxLen at hs
    go_enter Try.func16, Try.ntmps16
    go_wp2
    go_ret
    exact ⟨rfl, rfl⟩
  · obtain ⟨k, rfl⟩ : ∃ k : Nat, a = k := ⟨a.toNat, by omega⟩
    go_enter Try.func16, Try.ntmps16
    go_wp2_with (go_at_call 26; refine (within_no _ _ _ hs (by omega) (by omega)).mono ?_; rintro e w' ⟨rfl, rfl⟩)
    go_ret
    exact ⟨rfl, rfl⟩
theorem isplain_yes (s : ByteArray) (a : Nat) (w : World) (hs : s.size ≤ maxLen) (h : a + 16 ≤ s.size) :
    Calls Try.prog 16 #[.string s, .int .i64 a] w fun e w' => e = .returned (.bool (Sm.isPlain s a)) ∧ w = w' := by
  have hs' := hs
  unfold maxLen at hs
  go_enter Try.func16, Try.ntmps16
  go_wp2_with (go_at_call 26; refine (within_yes _ _ _ hs' h).mono ?_; rintro e w' ⟨rfl, rfl⟩)
  go_ret
  exact ⟨ret_bool (Sm.slice_plain' s a h), rfl⟩
theorem isplain_any (s : ByteArray) (a : Int) (w : World) (hs : s.size ≤ maxLen) (hb : -9223372036854775808 ≤ a) (hc : a ≤ 9223372036854775807) :
    Calls Try.prog 16 #[.string s, .int .i64 a] w fun e w' => e = .returned (.bool (Sm.isPlain s a)) ∧ w = w' := by
  by_cases h : 0 ≤ a ∧ a + 16 ≤ s.size
  · obtain ⟨k, rfl⟩ : ∃ k : Nat, a = k := ⟨a.toNat, by omega⟩
    exact isplain_yes s k w hs (by omega)
  · rw [Sm.isPlain_far s a h]; exact isplain_no s a w hs h hb hc

set_option maxHeartbeats 400000 in
theorem rdist_any (s : ByteArray) (a : Int) (w : World) (hs : s.size ≤ maxLen) (hz : s.size ≤ 100000) (hb : -9223372036854775808 ≤ a) (hc : a ≤ 9223372036854775807) :
    Calls Try.prog 15 #[.string s, .int .i64 a] w fun e w' => e = .returned (.int .i64 (Sm.dist s a)) ∧ w = w' := by
  have hs' := hs
  unfold maxLen at hs
  by_cases hf : a < -16 ∨ (s.size : Int) ≤ a
  · go_enter Try.func15, Try.ntmps15
    go_wp2_with (go_at_call 24; refine (far_yes _ _ _ hs' hf).mono ?_; rintro e w' ⟨rfl, rfl⟩)
    go_ret
    exact ⟨ret_i64 (Sm.distTo_far s a hf 16 (Nat.le_refl _)).symm, rfl⟩
  · have ha1 : -16 ≤ a := by omega
    have ha2 : a < s.size := by omega
    go_enter Try.func15, Try.ntmps15
    go_wp2_with (go_at_call 24; refine (far_no _ _ _ hs' hf).mono ?_; rintro e w' ⟨rfl, rfl⟩)
    go_loop [5, 6] (fun n i => ∃ k : Nat, k ≤ 16 ∧ i = .int .i64 k ∧ n = .int .i64 (Sm.offTo s a k)) (fun _ i => 16 - (intOf i).toNat)
    case atStart => exact ⟨0, Nat.zero_le _, rfl, rfl⟩
    case round =>
      obtain ⟨k, hk, rfl, rfl⟩ := hrel
      have hd := Sm.offTo_bd s a k
      by_cases hlt : k < 16
      · have hcb := Sm.cellAt_bd s (a + k)
        go_wp2_with (first
          | (go_at_call 25; refine (cell_any _ _ _ hs').mono ?_; rintro e w' ⟨rfl, rfl⟩)
          | (go_at_call 18; refine (rmark_any _).mono ?_; rintro e w' ⟨rfl, rfl⟩))
        all_goals
          go_round
          case rel => exact ⟨k + 1, by omega, by go_num, by first | (rw [Sm.offTo_yes s a k k hlt rfl ‹_›]) | (rw [Sm.offTo_no s a k k hlt rfl ‹_›])⟩
          case measure => simp [intOf]; omega
      · go_wp2
        go_ret
        obtain rfl : k = 16 := by omega
        exact ⟨ret_i64 (Sm.dist_off s a).symm, rfl⟩

set_option maxHeartbeats 400000 in
theorem risplain_any (s : ByteArray) (a : Int) (w : World) (hs : s.size ≤ maxLen) (hz : s.size ≤ 100000) (hb : -9223372036854775808 ≤ a) (hc : a ≤ 9223372036854775807) :
    Calls Try.prog 17 #[.string s, .int .i64 a] w fun e w' => e = .returned (.bool (Sm.isPlain s a)) ∧ w = w' := by
  have hs' := hs
  unfold maxLen at hs
  by_cases hf : a < -16 ∨ (s.size : Int) ≤ a
  · go_enter Try.func17, Try.ntmps17
    go_wp2_with (go_at_call 24; refine (far_yes _ _ _ hs' hf).mono ?_; rintro e w' ⟨rfl, rfl⟩)
    go_ret
    exact ⟨ret_bool (Sm.isPlain_far s a (by omega)).symm, rfl⟩
  · have ha1 : -16 ≤ a := by omega
    have ha2 : a < s.size := by omega
    go_enter Try.func17, Try.ntmps17
    go_wp2_with (go_at_call 24; refine (far_no _ _ _ hs' hf).mono ?_; rintro e w' ⟨rfl, rfl⟩)
    go_loop [5] (fun i => ∃ k : Nat, k ≤ 16 ∧ i = .int .i64 k ∧ Hid (Sm.plainTo s a k = true)) (fun i => 16 - (intOf i).toNat)
    case atStart => exact ⟨0, Nat.zero_le _, rfl, rfl⟩
    case round =>
      obtain ⟨k, hk, rfl, hp⟩ := hrel
      by_cases hlt : k < 16
      · have hcb := Sm.cellAt_bd s (a + k)
        go_wp2_with (first
          | (go_at_call 25; refine (cell_any _ _ _ hs').mono ?_; rintro e w' ⟨rfl, rfl⟩)
          | (go_at_call 20; refine (rplain_any _).mono ?_; rintro e w' ⟨rfl, rfl⟩))
        · go_ret
          exact ⟨ret_bool (Sm.plainTo_yes s a k k hlt rfl ‹_›).symm, rfl⟩
        · go_round
          case rel => exact ⟨k + 1, by omega, by go_num, by rw [Sm.plainTo_no s a k k hlt rfl ‹_›]; exact hp⟩
          case measure => simp [intOf]; omega
      · go_wp2
        go_ret
        obtain rfl : k = 16 := by omega
        exact ⟨ret_bool hp.out.symm, rfl⟩

set_option maxHeartbeats 400000 in
theorem rfind_any (s : ByteArray) (k0 : Nat) (a : Int) (w : World) (hs : s.size ≤ maxLen) (hz : s.size ≤ 100000) (ha : k0 = max a 0) (hk : k0 ≤ 9223372036854775807) :
    Calls Try.prog 12 #[.string s, .int .i64 a] w
      fun e w' => e = .returned (.tuple #[.int .i64 (Sm.find s k0).1, .bool (Sm.find s k0).2]) ∧ w = w' := by
  have hs' := hs
  unfold maxLen at hs
  have HA := Lib.hid ha; clear ha
  by_cases h0 : a < 0
  all_goals
    go_enter Try.func12, Try.ntmps12
    go_wp2
    go_loop [6] (fun i => ∃ k : Nat, k ≤ 9223372036854775807 ∧ i = .int .i64 k ∧ Hid (Sm.find s k = Sm.find s k0)) (fun i => s.size - (intOf i).toNat)
    case atStart =>
      have h1 := HA.out
      exact ⟨k0, hk, by first | (obtain rfl : k0 = 0 := by omega); rfl | (obtain rfl : a = k0 := by omega); rfl, rfl⟩
    case round =>
      obtain ⟨k, hk', rfl, hf⟩ := hrel
      by_cases hw : k + 16 ≤ s.size
      · by_cases hd : Sm.dist s k ≤ 2
        · have HR : Hid (Sm.find s k = ((k : Int), true)) := Sm.find_hit s k hw hd
          go_wp2_with (go_at_call 15; refine (rdist_any _ _ _ hs' hz (by omega) (by omega)).mono ?_; rintro e w' ⟨rfl, rfl⟩)
          go_ret2
          exact ⟨ret_ib (by rw [← hf.out, HR.out]) (by rw [← hf.out, HR.out]), rfl⟩
        · have HR : Hid (Sm.find s k = Sm.find s (k + 1)) := Sm.find_step s k hw hd
          go_wp2_with (go_at_call 15; refine (rdist_any _ _ _ hs' hz (by omega) (by omega)).mono ?_; rintro e w' ⟨rfl, rfl⟩)
          go_round
          case rel => exact ⟨k + 1, by omega, by go_num, by rw [← HR.out]; exact hf⟩
          case measure => simp [intOf]; omega
      · have HR : Hid (Sm.find s k = (0, false)) := Sm.find_end s k hw
        go_wp2
        go_ret2
        exact ⟨ret_ib (by rw [← hf.out, HR.out]) (by rw [← hf.out, HR.out]), rfl⟩
end Go.Proofs.Ytcklenkpalfjgaa
