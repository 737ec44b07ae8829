/-
  The walks of the laws SyncmarkFind and SyncmarkDistance.
-/
import Derived.Test.YtcklenkpalfjgaaSmRef
namespace Go.Proofs.Ytcklenkpalfjgaa
open Go.RowKit
set_option linter.unusedVariables false

theorem find_lit (w : World) : Calls Try.prog 11 #[.string ⟨#[48, 49, 49, 49, 49, 49, 48, 48, 49, 49, 48, 49, 48, 49, 48, 48, 48]⟩, .int .i64 0] w
    fun e w' => e = .returned (.tuple #[.int .i64 1, .bool true]) ∧ Below w.heap.size w w' := by
  have h : Sm.find ⟨#[48, 49, 49, 49, 49, 49, 48, 48, 49, 49, 48, 49, 48, 49, 48, 48, 48]⟩ 0 = (1, true) := by decide +kernel
  have := find_any ⟨#[48, 49, 49, 49, 49, 49, 48, 48, 49, 49, 48, 49, 48, 49, 48, 48, 48]⟩ 0 0 w (by decide +kernel) rfl (by omega)
  rwa [h] at this
theorem dist_lit (w : World) : Calls Try.prog 13 #[.string ⟨#[]⟩, .int .i64 0] w fun e w' => e = .returned (.int .i64 16) ∧ ∃ n, w' = w.drewN n := by
  have h : Sm.dist ⟨#[]⟩ 0 = 16 := by decide +kernel
  have := distance_any ⟨#[]⟩ 0 w (by decide +kernel) (by omega) (by omega)
  rwa [h] at this
theorem alive_any (w : World) : Calls Try.prog 10 #[] w fun e w' => e = .returned (.bool true) ∧ Below w.heap.size w w' := by
  go_enter Try.func10, Try.ntmps10
  go_wp2_with fail
  refine (find_lit _).mono ?_
  rintro e w1 ⟨rfl, hb⟩
  go_wp2_with fail
  refine (dist_lit _).mono ?_
  rintro e w2 ⟨rfl, n, rfl⟩
  go_wp2_with fail
  refine (mark_any _).mono ?_
  rintro e w2 ⟨rfl, rfl⟩
  go_wp2_with fail
  go_ret
  exact ⟨ret_bool (by decide +kernel), below_drewN hb _⟩

set_option maxHeartbeats 400000 in
theorem syncmarkFind.walk (s : ByteArray) (w0 : s.size ≤ maxLen) (a : Int) (w1 : (Lit.int .i64 a).wf = true) (w : World) :
    Calls Try.prog 3 #[.string s, .int .i64 a] w fun e w' => e = .returned (.bool true) ∧ Below w.heap.size w w' := by
  have wb := bounds_i64 w1
  have w0' := w0
  unfold maxLen at w0
  by_cases hz : s.size ≤ 2000
  · go_enter Try.func3, Try.ntmps3
    go_wp2_with (first
      | (go_at_call 10; refine (alive_any _).mono ?_; rintro e w1 ⟨rfl, hb1⟩)
      | (go_at_call 11; refine (find_any s (max a 0).toNat a _ w0' (by omega) (by omega)).mono ?_; rintro e w2 ⟨rfl, hb2⟩)
      | (go_at_call 12; refine (rfind_any s (max a 0).toNat a _ w0' (by omega) (by omega) (by omega)).mono ?_; rintro e w3 ⟨rfl, rfl⟩))
    go_ret
    exact ⟨ret_bool (by simp), hb1.trans (hb2.mono hb1.size)⟩
  · go_enter Try.func3, Try.ntmps3
    go_wp2_with (go_at_call 10; refine (alive_any _).mono ?_; rintro e w1 ⟨rfl, hb1⟩)
    go_ret
    exact ⟨rfl, hb1⟩

set_option maxHeartbeats 400000 in
theorem syncmarkDistance.walk (s : ByteArray) (w0 : s.size ≤ maxLen) (a : Int) (w1 : (Lit.int .i64 a).wf = true) (w : World) :
    Calls Try.prog 8 #[.string s, .int .i64 a] w fun e w' => e = .returned (.bool true) ∧ Below w.heap.size w w' := by
  have wb := bounds_i64 w1
  have w0' := w0
  unfold maxLen at w0
  by_cases hz : s.size ≤ 2000
  · go_enter Try.func8, Try.ntmps8
    go_wp2_with (first
      | (go_at_call 10; refine (alive_any _).mono ?_; rintro e w1 ⟨rfl, hb1⟩)
      | (go_at_call 13; refine (distance_any s a _ w0' (by omega) (by omega)).mono ?_; rintro e w2 ⟨rfl, n, rfl⟩)
      | (go_at_call 15; refine (rdist_any s a _ w0' (by omega) (by omega) (by omega)).mono ?_; rintro e w3 ⟨rfl, rfl⟩)
      | (go_at_call 16; refine (isplain_any s a _ w0' (by omega) (by omega)).mono ?_; rintro e w3 ⟨rfl, rfl⟩)
      | (go_at_call 17; refine (risplain_any s a _ w0' (by omega) (by omega) (by omega)).mono ?_; rintro e w3 ⟨rfl, rfl⟩)
      | (go_at_call 14; refine (mark_any _).mono ?_; rintro e w3 ⟨rfl, rfl⟩)
      | (go_at_call 18; refine (rmark_any _).mono ?_; rintro e w3 ⟨rfl, rfl⟩)
      | (go_at_call 19; refine (plain_any _).mono ?_; rintro e w3 ⟨rfl, rfl⟩)
      | (go_at_call 20; refine (rplain_any _).mono ?_; rintro e w3 ⟨rfl, rfl⟩))
    go_ret
    exact ⟨ret_bool (by simp), below_drewN hb1 _⟩
  · go_enter Try.func8, Try.ntmps8
    go_wp2_with (go_at_call 10; refine (alive_any _).mono ?_; rintro e w1 ⟨rfl, hb1⟩)
    go_ret
    exact ⟨rfl, hb1⟩
end Go.Proofs.Ytcklenkpalfjgaa
