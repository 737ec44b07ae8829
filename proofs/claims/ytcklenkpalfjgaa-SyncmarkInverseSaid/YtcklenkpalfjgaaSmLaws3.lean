/-
  The walks of the laws SyncmarkContext and SyncmarkExtension.
-/
import Derived.Test.YtcklenkpalfjgaaSmLaws2
import Derived.Test.YtcklenkpalfjgaaSmPlain3
namespace Go.Proofs.Ytcklenkpalfjgaa
open Go.RowKit
set_option linter.unusedVariables false

theorem distance_is (s : ByteArray) (k : Nat) (a : Int) (d : Int) (w : World) (hs : s.size ≤ 100000) (ha : a = k) (hk : k ≤ 100000) (h : Sm.dist s k = d) :
    Calls Try.prog 13 #[.string s, .int .i64 a] w fun e w' => e = .returned (.int .i64 d) ∧ Below w.heap.size w w' := by
  rw [← h]; exact distance_nat s k a w (by unfold maxLen; omega) ha (by omega)

theorem bt {w w1 w2 : World} (h : Below w.heap.size w w1) (k : Below w1.heap.size w1 w2) : Below w.heap.size w w2 := h.trans (k.mono h.size)

set_option maxHeartbeats 2000000 in
theorem syncmarkContext.walk (s : ByteArray) (w0 : s.size ≤ maxLen) (b : ByteArray) (w1 : b.size ≤ maxLen) (c : ByteArray) (w2 : c.size ≤ maxLen) (x : Int) (w3 : (Lit.int .u8 x).wf = true) (w : World) :
    Calls Try.prog 6 #[.string s, .string b, .string c, .int .u8 x] w fun e w' => e = .returned (.bool true) ∧ Below w.heap.size w w' := by
  have wb := bounds_u8 w3
  clear w3
  obtain ⟨a, rfl⟩ : ∃ a : Nat, x = a := ⟨x.toNat, by omega⟩
  unfold maxLen at w0 w1 w2
  by_cases hz : s.size ≤ 500
  · by_cases hy : b.size ≤ 100
    · by_cases hx : c.size ≤ 100
      · have e1 : (b ++ s).size ≤ 600 := by rw [Sm.append_size]; omega
        have e2 : (b ++ s ++ c).size ≤ 700 := by rw [Sm.append_size]; omega
        by_cases hk : a + 16 ≤ s.size
        · have hdm := Lib.hid (Sm.dist_mid b s c a hk)
          obtain ⟨d, hd⟩ : ∃ d, Sm.dist s a = d := ⟨_, rfl⟩
          have hdm2 : Hid (Sm.dist (b ++ s ++ c) ((b.size + a : Nat) : Int) = d) := hdm.out.trans hd
          have hd2 := Lib.hid hd
          clear hdm hd
          rcases Sm.find_cases s _ a rfl with ⟨i, hq, hf⟩ | ⟨hq, hf⟩
          · clear hq
            have h2 := hf.2.1
            have HF := Lib.hid hf
            have HG : Hid (Sm.Found (b ++ s) (b.size + a) (b.size + i)) := Sm.found_right b s a i hf
            clear hf
            go_enter Try.func6, Try.ntmps6
            go_wp2_with fail
            refine (alive_any _).mono ?_; rintro e w1 ⟨rfl, hb1⟩
            go_wp2_with fail
            refine (distance_is (b ++ s ++ c) (b.size + a) _ d _ (by omega) (by omega) (by omega) hdm2).mono ?_; rintro e w2 ⟨rfl, hb2⟩
            go_wp2_with fail
            refine (distance_is s a _ d _ (by omega) (by omega) (by omega) hd2).mono ?_; rintro e w3 ⟨rfl, hb3⟩
            go_wp2_with fail
            refine (find_found s a _ i _ (by unfold maxLen; omega) (by omega) (by omega) HF).mono ?_; rintro e w4 ⟨rfl, hb4⟩
            go_wp2_with fail
            refine (find_found (b ++ s) (b.size + a) _ (b.size + i) _ (by unfold maxLen; omega) (by omega) (by omega) HG).mono ?_; rintro e w5 ⟨rfl, hb5⟩
            go_wp2_with fail
            go_ret
            exact ⟨ret_bool (by simp), bt (bt (bt (bt (hb1) hb2) hb3) hb4) hb5⟩
          · clear hq
            have HF := Lib.hid hf
            have HG : Hid (Sm.Nowhere (b ++ s) (b.size + a)) := Sm.nowhere_right b s a hf
            clear hf
            go_enter Try.func6, Try.ntmps6
            go_wp2_with fail
            refine (alive_any _).mono ?_; rintro e w1 ⟨rfl, hb1⟩
            go_wp2_with fail
            refine (distance_is (b ++ s ++ c) (b.size + a) _ d _ (by omega) (by omega) (by omega) hdm2).mono ?_; rintro e w2 ⟨rfl, hb2⟩
            go_wp2_with fail
            refine (distance_is s a _ d _ (by omega) (by omega) (by omega) hd2).mono ?_; rintro e w3 ⟨rfl, hb3⟩
            go_wp2_with fail
            refine (find_nowhere s a _ _ (by unfold maxLen; omega) (by omega) (by omega) HF).mono ?_; rintro e w4 ⟨rfl, hb4⟩
            go_wp2_with fail
            refine (find_nowhere (b ++ s) (b.size + a) _ _ (by unfold maxLen; omega) (by omega) (by omega) HG).mono ?_; rintro e w5 ⟨rfl, hb5⟩
            go_wp2_with fail
            go_ret
            exact ⟨ret_bool (by simp), bt (bt (bt (bt (hb1) hb2) hb3) hb4) hb5⟩
        · rcases Sm.find_cases s _ a rfl with ⟨i, hq, hf⟩ | ⟨hq, hf⟩
          · clear hq
            have h2 := hf.2.1
            have HF := Lib.hid hf
            have HG : Hid (Sm.Found (b ++ s) (b.size + a) (b.size + i)) := Sm.found_right b s a i hf
            clear hf
            go_enter Try.func6, Try.ntmps6
            go_wp2_with fail
            refine (alive_any _).mono ?_; rintro e w1 ⟨rfl, hb1⟩
            go_wp2_with fail
            refine (find_found s a _ i _ (by unfold maxLen; omega) (by omega) (by omega) HF).mono ?_; rintro e w2 ⟨rfl, hb2⟩
            go_wp2_with fail
            refine (find_found (b ++ s) (b.size + a) _ (b.size + i) _ (by unfold maxLen; omega) (by omega) (by omega) HG).mono ?_; rintro e w3 ⟨rfl, hb3⟩
            go_wp2_with fail
            go_ret
            exact ⟨ret_bool (by simp), bt (bt (hb1) hb2) hb3⟩
          · clear hq
            have HF := Lib.hid hf
            have HG : Hid (Sm.Nowhere (b ++ s) (b.size + a)) := Sm.nowhere_right b s a hf
            clear hf
            go_enter Try.func6, Try.ntmps6
            go_wp2_with fail
            refine (alive_any _).mono ?_; rintro e w1 ⟨rfl, hb1⟩
            go_wp2_with fail
            refine (find_nowhere s a _ _ (by unfold maxLen; omega) (by omega) (by omega) HF).mono ?_; rintro e w2 ⟨rfl, hb2⟩
            go_wp2_with fail
            refine (find_nowhere (b ++ s) (b.size + a) _ _ (by unfold maxLen; omega) (by omega) (by omega) HG).mono ?_; rintro e w3 ⟨rfl, hb3⟩
            go_wp2_with fail
            go_ret
            exact ⟨ret_bool (by simp), bt (bt (hb1) hb2) hb3⟩
      · go_enter Try.func6, Try.ntmps6
        go_wp2_with (go_at_call 10; refine (alive_any _).mono ?_; rintro e w1 ⟨rfl, hb1⟩)
        go_ret
        exact ⟨rfl, hb1⟩
    · go_enter Try.func6, Try.ntmps6
      go_wp2_with (go_at_call 10; refine (alive_any _).mono ?_; rintro e w1 ⟨rfl, hb1⟩)
      go_ret
      exact ⟨rfl, hb1⟩
  · go_enter Try.func6, Try.ntmps6
    go_wp2_with (go_at_call 10; refine (alive_any _).mono ?_; rintro e w1 ⟨rfl, hb1⟩)
    go_ret
    exact ⟨rfl, hb1⟩

set_option maxHeartbeats 2000000 in
theorem syncmarkExtension.walk (s : ByteArray) (w0 : s.size ≤ maxLen) (b : ByteArray) (w1 : b.size ≤ maxLen) (x : Int) (w3 : (Lit.int .u8 x).wf = true) (w : World) :
    Calls Try.prog 7 #[.string s, .string b, .int .u8 x] w fun e w' => e = .returned (.bool true) ∧ Below w.heap.size w w' := by
  have wb := bounds_u8 w3
  clear w3
  obtain ⟨a, rfl⟩ : ∃ a : Nat, x = a := ⟨x.toNat, by omega⟩
  unfold maxLen at w0 w1
  by_cases hz : s.size ≤ 500
  · by_cases hy : b.size ≤ 500
    · have e1 : (s ++ b).size ≤ 1000 := by rw [Sm.append_size]; omega
      rcases Sm.find_cases s _ a rfl with ⟨i, hq, hf⟩ | ⟨hq, hf⟩
      · clear hq
        have h2 := hf.2.1
        have HF := Lib.hid hf
        have HG : Hid (Sm.Found (s ++ b) a i) := Sm.found_left s b a i hf
        clear hf
        go_enter Try.func7, Try.ntmps7
        go_wp2_with fail
        refine (alive_any _).mono ?_; rintro e w1 ⟨rfl, hb1⟩
        go_wp2_with fail
        refine (find_found s a _ i _ (by unfold maxLen; omega) (by omega) (by omega) HF).mono ?_; rintro e w2 ⟨rfl, hb2⟩
        go_wp2_with fail
        refine (find_found (s ++ b) a _ i _ (by unfold maxLen; omega) (by omega) (by omega) HG).mono ?_; rintro e w3 ⟨rfl, hb3⟩
        go_wp2_with fail
        go_ret
        exact ⟨ret_bool (by simp), bt (bt hb1 hb2) hb3⟩
      · clear hq
        have HF := Lib.hid hf; clear hf
        rcases Sm.find_cases (s ++ b) _ a rfl with ⟨i, hq, hf⟩ | ⟨hq, hf⟩
        · clear hq
          have h2 := hf.2.1
          have h3 := Sm.found_beyond s b a i HF.out hf
          have HG := Lib.hid hf; clear hf
          go_enter Try.func7, Try.ntmps7
          go_wp2_with fail
          refine (alive_any _).mono ?_; rintro e w1 ⟨rfl, hb1⟩
          go_wp2_with fail
          refine (find_nowhere s a _ _ (by unfold maxLen; omega) (by omega) (by omega) HF).mono ?_; rintro e w2 ⟨rfl, hb2⟩
          go_wp2_with fail
          refine (find_found (s ++ b) a _ i _ (by unfold maxLen; omega) (by omega) (by omega) HG).mono ?_; rintro e w3 ⟨rfl, hb3⟩
          go_wp2_with fail
          go_ret
          exact ⟨ret_bool (by simp; omega), bt (bt hb1 hb2) hb3⟩
        · clear hq
          have HG := Lib.hid hf; clear hf
          go_enter Try.func7, Try.ntmps7
          go_wp2_with fail
          refine (alive_any _).mono ?_; rintro e w1 ⟨rfl, hb1⟩
          go_wp2_with fail
          refine (find_nowhere s a _ _ (by unfold maxLen; omega) (by omega) (by omega) HF).mono ?_; rintro e w2 ⟨rfl, hb2⟩
          go_wp2_with fail
          refine (find_nowhere (s ++ b) a _ _ (by unfold maxLen; omega) (by omega) (by omega) HG).mono ?_; rintro e w3 ⟨rfl, hb3⟩
          go_wp2_with fail
          go_ret
          exact ⟨ret_bool (by simp), bt (bt hb1 hb2) hb3⟩
    · go_enter Try.func7, Try.ntmps7
      go_wp2_with (go_at_call 10; refine (alive_any _).mono ?_; rintro e w1 ⟨rfl, hb1⟩)
      go_ret
      exact ⟨rfl, hb1⟩
  · go_enter Try.func7, Try.ntmps7
    go_wp2_with (go_at_call 10; refine (alive_any _).mono ?_; rintro e w1 ⟨rfl, hb1⟩)
    go_ret
    exact ⟨rfl, hb1⟩
end Go.Proofs.Ytcklenkpalfjgaa
