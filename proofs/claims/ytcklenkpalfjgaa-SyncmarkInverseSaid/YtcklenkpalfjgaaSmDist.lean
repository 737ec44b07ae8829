/-
  The walk of syncmark.Distance.
-/
import Derived.Test.YtcklenkpalfjgaaSmPlain
import Derived.Test.YtcklenkpalfjgaaRows
import Derived.WalkKit
import Derived.WalkSpells
import Derived.WalkLawsBesides
import Derived.Lib.Hide
import Derived.Handy
import Derived.BigQuiet
import Derived.Deep.QuietTactic
namespace Go.Proofs.Ytcklenkpalfjgaa
open Go.RowKit

theorem ret_i64 {a b : Int} (h : a = b) : Ending.returned (.int .i64 a) = .returned (.int .i64 b) := by rw [h]

theorem ret_bool {a b : Bool} (h : a = b) : Ending.returned (.bool a) = .returned (.bool b) := by rw [h]
theorem ret_ib {x y : Int} {b c : Bool} (h : x = y) (h' : b = c) : Ending.returned (.tuple #[.int .i64 x, .bool b]) = .returned (.tuple #[.int .i64 y, .bool c]) := by rw [h, h']
theorem ret_u8 {a b : Int} (h : a = b) : Ending.returned (.int .u8 a) = .returned (.int .u8 b) := by rw [h]
theorem ret_pair {a b c d : Value} (h : a = b) (h' : c = d) : Ending.returned (.tuple #[a, c]) = .returned (.tuple #[b, d]) := by rw [h, h']
set_option maxHeartbeats 400000 in
theorem distance_pos (s : ByteArray) (a : Nat) (w : World) (hs : s.size ≤ maxLen) (ha : a ≤ 9223372036854775807) :
    Calls Try.prog 13 #[.string s, .int .i64 a] w fun e w' => e = .returned (.int .i64 (Sm.dist s a)) ∧ ∃ n, w' = w.drewN n := by
  unfold maxLen at hs
  go_enter Try.func13, Try.ntmps13
  go_wp2
  go_loopw [5, 37] (fun n i wr => ∃ k : Nat, k ≤ 16 ∧ i = .int .i64 k ∧ n = .int .i64 (Sm.distTo s a k) ∧ ∃ q, wr = w.drewN q) (fun _ i _ => 16 - (intOf i).toNat)
  case atStart => exact ⟨0, Nat.zero_le _, rfl, rfl, 0, rfl⟩
  case round =>
    obtain ⟨k, hk, rfl, rfl, q, rfl⟩ := hrel
    have hd := Sm.distTo_bd s a k
    by_cases hlt : k < 16
    · by_cases h1 : a < s.size
      · by_cases h2 : (k : Int) < (s.size : Int) - a
        · have h3 : IntKind.i64.wrap ((a : Int) + k) = (a : Int) + k := IntWalk.i64_in _ (by omega)
          have h4 : ((a : Int) + k).toNat = a + k := by omega
          have h5 : (a : Int) + k < s.size := by omega
          have h6 : 0 ≤ (a : Int) + k := by omega
          have h1' : decide (a < s.size) = true := by simpa using h1
          have h2' : decide ((k : Int) < (s.size : Int) - a) = true := by simpa using h2
          go_wp2_with fail
          go_quiet (fail)
          go_wp2
          all_goals
            go_roundw
            case rel => exact ⟨k + 1, by omega, by go_num, by rw [Sm.step_in s a k (a + k) (by omega) (by omega) hlt _ ‹_›]; simp, _, rfl⟩
            case measure => simp [intOf]; omega
        · have h2' : decide ((k : Int) < (s.size : Int) - a) = false := by simpa using h2
          go_wp2_with fail
          go_quiet (fail)
          go_wp2
          go_roundw
          case rel => exact ⟨k + 1, by omega, by go_num, by rw [Sm.step_out s a k (by omega)], _, rfl⟩
          case measure => simp [intOf]; omega
      · have h1' : decide (a < s.size) = false := by simpa using h1
        go_wp2_with fail
        go_quiet (fail)
        go_wp2
        go_roundw
        case rel => exact ⟨k + 1, by omega, by go_num, by rw [Sm.step_out s a k (by omega)], _, rfl⟩
        case measure => simp [intOf]; omega
    · go_wp2
      go_ret
      obtain rfl : k = 16 := by omega
      exact ⟨rfl, _, rfl⟩

set_option maxHeartbeats 400000 in
theorem distance_neg (s : ByteArray) (a : Int) (w : World) (hs : s.size ≤ maxLen) (ha : a < 0) (hb : -9223372036854775808 ≤ a) :
    Calls Try.prog 13 #[.string s, .int .i64 a] w fun e w' => e = .returned (.int .i64 (Sm.dist s a)) ∧ ∃ n, w' = w.drewN n := by
  unfold maxLen at hs
  go_enter Try.func13, Try.ntmps13
  go_wp2
  go_loopw [5, 11] (fun n i wr => ∃ k : Nat, k ≤ 16 ∧ i = .int .i64 k ∧ n = .int .i64 (Sm.distTo s a k) ∧ ∃ q, wr = w.drewN q) (fun _ i _ => 16 - (intOf i).toNat)
  case atStart => exact ⟨0, Nat.zero_le _, rfl, rfl, 0, rfl⟩
  case round =>
    obtain ⟨k, hk, rfl, rfl, q, rfl⟩ := hrel
    have hd := Sm.distTo_bd s a k
    by_cases hlt : k < 16
    · by_cases h1 : 0 ≤ a + (k : Int)
      · by_cases h2 : a + (k : Int) < s.size
        · have h1' : decide (0 ≤ a + (k : Int)) = true := by simpa using h1
          have h2' : decide (a + (k : Int) < s.size) = true := by simpa using h2
          go_wp2_with fail
          go_quiet (fail)
          go_wp2
          all_goals
            go_roundw
            case rel => exact ⟨k + 1, by omega, by go_num, by rw [Sm.step_in s a k (a + k).toNat (by omega) (by omega) hlt _ ‹_›]; simp, _, rfl⟩
            case measure => simp [intOf]; omega
        · have h2' : decide (a + (k : Int) < s.size) = false := by simpa using h2
          go_wp2_with fail
          go_quiet (fail)
          go_wp2
          go_roundw
          case rel => exact ⟨k + 1, by omega, by go_num, by rw [Sm.step_out s a k (by omega)], _, rfl⟩
          case measure => simp [intOf]; omega
      · have h1' : decide (0 ≤ a + (k : Int)) = false := by simpa using h1
        go_wp2_with fail
        go_quiet (fail)
        go_wp2
        go_roundw
        case rel => exact ⟨k + 1, by omega, by go_num, by rw [Sm.step_out s a k (by omega)], _, rfl⟩
        case measure => simp [intOf]; omega
    · go_wp2
      go_ret
      obtain rfl : k = 16 := by omega
      exact ⟨rfl, _, rfl⟩

theorem distance_any (s : ByteArray) (a : Int) (w : World) (hs : s.size ≤ maxLen) (hb : -9223372036854775808 ≤ a) (hc : a ≤ 9223372036854775807) :
    Calls Try.prog 13 #[.string s, .int .i64 a] w fun e w' => e = .returned (.int .i64 (Sm.dist s a)) ∧ ∃ n, w' = w.drewN n := by
  by_cases ha : a < 0
  · exact distance_neg s a w hs ha hb
  · obtain ⟨n, rfl⟩ : ∃ n : Nat, a = n := ⟨a.toNat, by omega⟩
    exact distance_pos s n w hs (by omega)
end Go.Proofs.Ytcklenkpalfjgaa
