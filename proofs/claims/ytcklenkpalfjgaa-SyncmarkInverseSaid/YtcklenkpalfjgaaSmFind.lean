/-
  The walks of syncmark.within, first, Find and the closure that Find hands to first.
-/
import Derived.Test.YtcklenkpalfjgaaSmDist
namespace Go.Proofs.Ytcklenkpalfjgaa
open Go.RowKit

theorem within_any (s : ByteArray) (k : Nat) (w : World) (hs : s.size ≤ maxLen) (hk : k ≤ 9223372036854775807) :
    Calls Try.prog 26 #[.string s, .int .i64 k] w fun e w' => e = .returned (.bool (decide (k + 16 ≤ s.size))) ∧ w = w' := by
  unfold maxLen at hs
  by_cases h1 : k ≤ s.size
  · go_enter Try.func26, Try.ntmps26
    go_wp2_with fail
    go_ret
    exact ⟨ret_bool (by simp only [decide_eq_decide]; omega), rfl⟩
  · go_enter Try.func26, Try.ntmps26
    go_wp2_with fail
    go_ret
    exact ⟨ret_bool (by rw [eq_comm, decide_eq_false_iff_not]; omega), rfl⟩

theorem within_yes (s : ByteArray) (k : Nat) (w : World) (hs : s.size ≤ maxLen) (hk : k + 16 ≤ s.size) :
    Calls Try.prog 26 #[.string s, .int .i64 k] w fun e w' => e = .returned (.bool true) ∧ w = w' := by
  have := within_any s k w hs (by unfold maxLen at hs; omega)
  rwa [decide_eq_true hk] at this
theorem within_no (s : ByteArray) (k : Nat) (w : World) (hs : s.size ≤ maxLen) (hk' : k ≤ 9223372036854775807) (hk : ¬ k + 16 ≤ s.size) :
    Calls Try.prog 26 #[.string s, .int .i64 k] w fun e w' => e = .returned (.bool false) ∧ w = w' := by
  have := within_any s k w hs hk'
  rwa [decide_eq_false hk] at this

theorem clos_any (s : ByteArray) (k : Nat) (p : Addr) (w : World) (hs : s.size ≤ maxLen) (hk : k ≤ 9223372036854775807) (hc : w.cell? p = some (.string s)) (b : Bool) (hb : decide (Sm.dist s k ≤ 2) = b) :
    Calls Try.prog 23 #[.int .i64 k, .pointer (some p)] w fun e w' => e = .returned (.bool b) ∧ ∃ n, w' = w.drewN n := by
  have HB := Lib.hid hb; clear hb
  go_enter Try.func23, Try.ntmps23
  go_wp2_with (go_at_call 13; refine (distance_any _ _ _ hs (by omega) (by omega)).mono ?_; rintro e w' ⟨rfl, n, rfl⟩)
  go_ret
  exact ⟨ret_bool HB.out, _, rfl⟩

set_option maxHeartbeats 400000 in
theorem first_any (s : ByteArray) (k0 : Nat) (a : Int) (p : Addr) (w : World) (hs : s.size ≤ maxLen) (ha : k0 = max a 0) (hk : k0 ≤ 9223372036854775807) (hc : w.cell? p = some (.string s)) :
    Calls Try.prog 22 #[.string s, .int .i64 a, .func (.func 23) #[] #[.pointer (some p)]] w
      fun e w' => e = .returned (.tuple #[.int .i64 (Sm.find s k0).1, .bool (Sm.find s k0).2]) ∧ ∃ n, w' = w.drewN n := by
  have HA := Lib.hid ha; clear ha
  go_enter Try.func22, Try.ntmps22
  by_cases h0 : a < 0
  all_goals
    go_wp2
    go_loopw [8] (fun i wr => ∃ k : Nat, k ≤ 9223372036854775807 ∧ i = .int .i64 k ∧ Hid (Sm.find s k = Sm.find s k0) ∧ ∃ q, wr = w.drewN q) (fun i _ => s.size - (intOf i).toNat)
    case atStart =>
      have h1 := HA.out
      exact ⟨k0, hk, by first | (obtain rfl : k0 = 0 := by omega); rfl | (obtain rfl : a = k0 := by omega); rfl, rfl, 0, rfl⟩
    case round =>
      obtain ⟨k, hk', rfl, hf, q, rfl⟩ := hrel
      have hc' : (w.drewN q).cell? p = some (.string s) := by simpa using hc
      by_cases hw : k + 16 ≤ s.size
      · by_cases hd : Sm.dist s k ≤ 2
        · have HD : Hid (decide (Sm.dist s k ≤ 2) = true) := decide_eq_true hd
          have HR : Hid (Sm.find s k = ((k : Int), true)) := Sm.find_hit s k hw hd
          clear hd
          go_wp2_with (first
            | (go_at_call 26; refine (within_yes _ _ _ hs (by omega)).mono ?_; rintro e w' ⟨rfl, rfl⟩)
            | (go_at_call 23; refine (clos_any s _ p _ hs hk' hc' true HD.out).mono ?_; rintro e w' ⟨rfl, n, rfl⟩))
          go_ret2
          exact ⟨ret_ib (by rw [← hf.out, HR.out]) (by rw [← hf.out, HR.out]), _, rfl⟩
        · have HD : Hid (decide (Sm.dist s k ≤ 2) = false) := decide_eq_false hd
          have HR : Hid (Sm.find s k = Sm.find s (k + 1)) := Sm.find_step s k hw hd
          unfold maxLen at hs
          clear hd
          go_wp2_with (first
            | (go_at_call 26; refine (within_yes _ _ _ hs (by omega)).mono ?_; rintro e w' ⟨rfl, rfl⟩)
            | (go_at_call 23; refine (clos_any s _ p _ hs hk' hc' false HD.out).mono ?_; rintro e w' ⟨rfl, n, rfl⟩))
          go_roundw
          case rel => exact ⟨k + 1, by omega, by go_num, by rw [← HR.out]; exact hf, _, rfl⟩
          case measure => simp [intOf]; omega
      · have HR : Hid (Sm.find s k = (0, false)) := Sm.find_end s k hw
        go_wp2_with (go_at_call 26; refine (within_no _ _ _ hs (by omega) (by omega)).mono ?_; rintro e w' ⟨rfl, rfl⟩)
        go_ret2
        exact ⟨ret_ib (by rw [← hf.out, HR.out]) (by rw [← hf.out, HR.out]), _, rfl⟩

set_option maxHeartbeats 400000 in
theorem find_any (s : ByteArray) (k0 : Nat) (a : Int) (w : World) (hs : s.size ≤ maxLen) (ha : k0 = max a 0) (hk : k0 ≤ 9223372036854775807) :
    Calls Try.prog 11 #[.string s, .int .i64 a] w
      fun e w' => e = .returned (.tuple #[.int .i64 (Sm.find s k0).1, .bool (Sm.find s k0).2]) ∧ Below w.heap.size w w' := by
  have HA := Lib.hid ha; clear ha
  go_enter Try.func11, Try.ntmps11
  have hcn : (w.alloc (.cells #[.string s] 9)).cell? ⟨w.heap.size, 0, none⟩ = some (.string s) := by simp
  go_wp2_with fail
  refine (first_any s k0 _ _ _ hs HA.out hk hcn).mono ?_
  rintro e w' ⟨rfl, n, rfl⟩
  go_wp2
  go_ret2
  exact ⟨ret_ib rfl rfl, below_drewN (by go_grown) _⟩
end Go.Proofs.Ytcklenkpalfjgaa
