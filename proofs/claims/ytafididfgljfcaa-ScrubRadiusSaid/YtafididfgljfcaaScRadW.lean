/-
  The walk of the law ScrubRadius.
-/
import Derived.Test.YtafididfgljfcaaAwk
namespace Go.Proofs.Ytafididfgljfcaa
open Go.RowKit
set_option linter.unusedVariables false
theorem i64_in_wf {k : Int} (h : (Lit.int .i64 k).wf = true) : -9223372036854775808 ≤ k ∧ k ≤ 9223372036854775807 := by
  have := bounds_i64 h
  omega
set_option maxRecDepth 100000 in
set_option maxHeartbeats 1000000 in
theorem rad55 (e : Int) (b : Bool) (hb : Hid (decide (e ≤ 4) = b)) (h0 : 0 ≤ e) (h1 : e ≤ 100) (w : World) : Calls Try.prog 17 #[.int .i64 8, .int .i64 e, .int .i64 0] w fun r w' => r = .returned (.bool b) ∧ w = w' := by
  rw [← hb.out]
  go_enter Try.func17, Try.ntmps17
  go_wp2
  all_goals (go_ret; first | exact ⟨rfl, rfl⟩ | exact ⟨ret_bool (by first | (rw [decide_eq_true (by omega)]) | (rw [decide_eq_false (by omega)])), rfl⟩)
set_option maxRecDepth 100000 in
set_option maxHeartbeats 1000000 in
theorem scrubRadius.walk (d u c : Int) (w0 : (Lit.int .i64 c).wf = true) (w : World) :
    Calls Try.prog 6 #[.agg #[.int .i64 d, .int .i64 u, .int .i64 c]] w fun e w' => e = .returned (.bool true) ∧ Below w.heap.size w w' := by
  have hB := (Below.refl w.heap.size w).alloc (Nat.le_refl _) (.cells #[.int .i64 d, .int .i64 u, .int .i64 c] 41)
  have HB := Lib.hid hB
  have hcl : w.heap.size < (w.alloc (.cells #[.int .i64 d, .int .i64 u, .int .i64 c] 41)).heap.size := by simp
  have hc0 : (w.alloc (.cells #[.int .i64 d, .int .i64 u, .int .i64 c] 41)).cell? ⟨w.heap.size, 0, none⟩ = some (.int .i64 d) := box_cell w [.int .i64 d, .int .i64 u, .int .i64 c] _ 0 _ rfl
  have hc1 : (w.alloc (.cells #[.int .i64 d, .int .i64 u, .int .i64 c] 41)).cell? ⟨w.heap.size, 1, none⟩ = some (.int .i64 u) := box_cell w [.int .i64 d, .int .i64 u, .int .i64 c] _ 1 _ rfl
  have hc2 : (w.alloc (.cells #[.int .i64 d, .int .i64 u, .int .i64 c] 41)).cell? ⟨w.heap.size, 2, none⟩ = some (.int .i64 c) := box_cell w [.int .i64 d, .int .i64 u, .int .i64 c] _ 2 _ rfl
  obtain ⟨l1, l2⟩ := i64_in_wf w0
  clear hB w0
  by_cases g0 : c < 0
  · go_enter Try.func6, Try.ntmps6
    go_wp2_with fail
    refine (awake_any _).mono ?_
    rintro e w2 ⟨rfl, hb2⟩
    have HB2 := Lib.hid (bt HB.out hb2)
    clear hb2
    go_wp2_with fail
    go_ret
    exact ⟨rfl, HB2.out⟩
  · by_cases g1 : 52 < c
    · go_enter Try.func6, Try.ntmps6
      go_wp2_with fail
      refine (awake_any _).mono ?_
      rintro e w2 ⟨rfl, hb2⟩
      have HB2 := Lib.hid (bt HB.out hb2)
      clear hb2
      go_wp2_with fail
      go_ret
      exact ⟨rfl, HB2.out⟩
    · generalize hw1 : w.alloc (.cells #[.int .i64 d, .int .i64 u, .int .i64 c] 41) = w1 at *
      go_enter Try.func6, Try.ntmps6
      go_wp2_with fail
      refine (margin_any d u c w1 (by omega) (by omega)).mono ?_
      rintro e w2 ⟨rfl, hb2⟩
      have HB2 := Lib.hid (bt HB.out hb2)
      have hd0 := (hb2.cell (p := ⟨w.heap.size, 0, none⟩) hcl).trans hc0
      have hd1 := (hb2.cell (p := ⟨w.heap.size, 1, none⟩) hcl).trans hc1
      have hd2 := (hb2.cell (p := ⟨w.heap.size, 2, none⟩) hcl).trans hc2
      clear hc0 hc1 hc2 hb2 HB hw1 hcl
      by_cases g2 : c ≤ 4
      · rw [show max 0 (4 - c) = 4 - c by omega]
        go_wp2_with fail
        refine (rad55 c true (decide_eq_true g2) (by omega) (by omega) w2).mono ?_
        rintro e w3 ⟨rfl, rfl⟩
        go_wp2_with fail
        refine (rad55 _ true (decide_eq_true (by omega)) (by omega) (by omega) _).mono ?_
        rintro e w3 ⟨rfl, rfl⟩
        go_wp2_with fail
        refine (rad55 _ false (decide_eq_false (by omega)) (by omega) (by omega) _).mono ?_
        rintro e w3 ⟨rfl, rfl⟩
        go_wp2_with fail
        refine (awake_any _).mono ?_
        rintro e w4 ⟨rfl, hb4⟩
        have HB4 := Lib.hid (bt HB2.out hb4)
        clear hb4 hd0 hd1 hd2
        go_wp2_with fail
        go_ret
        exact ⟨rfl, HB4.out⟩
      · rw [show max 0 (4 - c) = 0 by omega]
        go_wp2_with fail
        refine (rad55 c false (decide_eq_false (by omega)) (by omega) (by omega) w2).mono ?_
        rintro e w3 ⟨rfl, rfl⟩
        go_wp2_with fail
        refine (awake_any _).mono ?_
        rintro e w4 ⟨rfl, hb4⟩
        have HB4 := Lib.hid (bt HB2.out hb4)
        clear hb4 hd0 hd1 hd2
        go_wp2_with fail
        go_ret
        exact ⟨rfl, HB4.out⟩
end Go.Proofs.Ytafididfgljfcaa
