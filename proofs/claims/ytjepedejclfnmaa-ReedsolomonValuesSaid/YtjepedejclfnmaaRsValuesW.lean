/-
  The walk of the law ReedsolomonValues, for data and a number of parity symbols whose sum is an int.
-/
import Derived.Test.YtjepedejclfnmaaREnc
import Derived.Test.YtjepedejclfnmaaRSyn
namespace Go.Proofs.Ytjepedejclfnmaa
open Go.RowKit
set_option linter.unusedVariables false

theorem values_gen (p : Int) : ∃ (G : List UInt8) (c : Int), (∀ w, Calls Try.prog 11 #[.int .i64 p] w fun e w' => ∃ v, e = .returned (.tuple #[v, .int .i64 c]) ∧ Sl w' 0 v G ∧ Below w.heap.size w w')
    ∧ ∀ w, Calls Try.prog 12 #[.int .i64 p] w fun e w' => ∃ v, e = .returned (.tuple #[v, .int .i64 c]) ∧ Sl w' 0 v G ∧ Below w.heap.size w w' := by
  by_cases h : p < 1 ∨ 64 < p
  · refine ⟨[], 2, fun w => (gen_bad p h w).mono ?_, fun w => (rgen_bad p h w).mono ?_⟩
    all_goals
      rintro e w' ⟨rfl, rfl⟩
      exact ⟨_, rfl, Or.inl ⟨_, _, rfl, rfl⟩, Below.refl _ _⟩
  · obtain ⟨q, rfl⟩ : ∃ q : Nat, p = q := ⟨p.toNat, by omega⟩
    have h1 : 1 ≤ q := by omega
    have h2 : q ≤ 64 := by omega
    refine ⟨genB q, 0, fun w => (gen_ok q h1 h2 w).mono ?_, fun w => (rgen_ok q h1 h2 w).mono ?_⟩
    · rintro e w' ⟨g, cap, rfl, hg, hC, hc1, hc2, hB⟩
      exact ⟨_, rfl, Sl.of_cells hC (Nat.zero_le _) (by rw [gen_len]; exact hc1) hc2 _ (gen_len q), hB⟩
    · rintro e w' ⟨g, rfl, hg, hC, hB⟩
      exact ⟨_, rfl, Sl.of_cells hC (Nat.zero_le _) (by rw [gen_len]; exact Nat.le_refl _) (by unfold maxLen; omega) _ (gen_len q), hB⟩
theorem values_enc (s : ByteArray) (hs : s.size ≤ 9223372036854775000) (p : Int) : ∃ (X : ByteArray) (c : Int), (∀ w, Calls Try.prog 13 #[.string s, .int .i64 p] w fun e w' => e = .returned (.tuple #[.string X, .int .i64 c]) ∧ Below w.heap.size w w')
    ∧ ∀ w, Calls Try.prog 14 #[.string s, .int .i64 p] w fun e w' => e = .returned (.tuple #[.string X, .int .i64 c]) ∧ Below w.heap.size w w' := by
  by_cases h : p < 1 ∨ 64 < p
  · refine ⟨⟨#[]⟩, 2, fun w => (enc_bad s p h w).mono ?_, fun w => (renc_bad s p h w).mono ?_⟩
    all_goals
      rintro e w' ⟨rfl, rfl⟩
      exact ⟨rfl, Below.refl _ _⟩
  · obtain ⟨q, rfl⟩ : ∃ q : Nat, p = q := ⟨p.toNat, by omega⟩
    have h1 : 1 ≤ q := by omega
    have h2 : q ≤ 64 := by omega
    by_cases h3 : 255 < s.size + q
    · exact ⟨_, 6, fun w => enc_long s q h1 h2 h3 hs w, fun w => renc_long s q h1 h2 h3 hs w⟩
    · exact ⟨_, 0, fun w => enc_ok s q h1 h2 (by omega) w, fun w => renc_ok s q h1 h2 (by omega) w⟩
theorem values_syn (s : ByteArray) (p : Int) : ∃ (G : List UInt8) (c : Int), (∀ w, Calls Try.prog 15 #[.string s, .int .i64 p] w fun e w' => ∃ v, e = .returned (.tuple #[v, .int .i64 c]) ∧ Sl w' 0 v G ∧ Below w.heap.size w w')
    ∧ ∀ w, Calls Try.prog 16 #[.string s, .int .i64 p] w fun e w' => ∃ v, e = .returned (.tuple #[v, .int .i64 c]) ∧ Sl w' 0 v G ∧ Below w.heap.size w w' := by
  by_cases h : p < 1 ∨ 64 < p
  · refine ⟨[], 2, fun w => (syn_range s p h w).mono ?_, fun w => (rsyn_range s p h w).mono ?_⟩
    all_goals
      rintro e w' ⟨rfl, rfl⟩
      exact ⟨_, rfl, Or.inl ⟨_, _, rfl, rfl⟩, Below.refl _ _⟩
  · obtain ⟨q, rfl⟩ : ∃ q : Nat, p = q := ⟨p.toNat, by omega⟩
    have h1 : 1 ≤ q := by omega
    have h2 : q ≤ 64 := by omega
    by_cases h3 : s.size < q
    · refine ⟨[], 4, fun w => (syn_short s q h1 h2 h3 w).mono ?_, fun w => (rsyn_short s q h1 h2 h3 w).mono ?_⟩
      all_goals
        rintro e w' ⟨rfl, rfl⟩
        exact ⟨_, rfl, Or.inl ⟨_, _, rfl, rfl⟩, Below.refl _ _⟩
    · by_cases h4 : 255 < s.size
      · refine ⟨[], 6, fun w => (syn_long s q h1 h2 h4 w).mono ?_, fun w => (rsyn_long s q h1 h2 h4 w).mono ?_⟩
        all_goals
          rintro e w' ⟨rfl, rfl⟩
          exact ⟨_, rfl, Or.inl ⟨_, _, rfl, rfl⟩, Below.refl _ _⟩
      · refine ⟨synB s.data.toList q, 0, fun w => (syn_ok s q h1 h2 (by omega) (by omega) w).mono ?_, fun w => (rsyn_ok s q h1 h2 (by omega) (by omega) w).mono ?_⟩
        · rintro e w' ⟨g, rfl, hg, hC, hB⟩
          exact ⟨_, rfl, Sl.of_cells hC (Nat.zero_le _) (by rw [synB_len]; exact Nat.le_refl _) (by unfold maxLen; omega) _ (synB_len _ _), hB⟩
        · rintro e w' ⟨v, rfl, hS, hB⟩
          exact ⟨_, rfl, hS.mono (Nat.zero_le _), hB⟩

set_option maxRecDepth 100000 in
set_option maxHeartbeats 2000000 in
theorem reedsolomonValues.walk (s : ByteArray) (w0 : s.size ≤ 9223372036854775000) (p : Int) (w : World) :
    Calls Try.prog 3 #[.string s, .int .i64 p] w fun e w' => e = .returned (.bool true) ∧ Below w.heap.size w w' := by
  obtain ⟨G, c1, g1, g2⟩ := values_gen p
  obtain ⟨X, c2, g3, g4⟩ := values_enc s w0 p
  obtain ⟨S, c3, g5, g6⟩ := values_syn s p
  have G1 := Lib.hid g1
  have G2 := Lib.hid g2
  have G3 := Lib.hid g3
  have G4 := Lib.hid g4
  have G5 := Lib.hid g5
  have G6 := Lib.hid g6
  clear g1 g2 g3 g4 g5 g6 w0
  go_enter Try.func3, Try.ntmps3
  go_wp2_with fail
  refine (G1.out _).mono ?_
  rintro e w1 ⟨v1, rfl, hS1, hB1⟩
  have HB1 := Lib.hid hB1
  have HS1 := Lib.hid hS1
  clear hB1 hS1
  go_wp2_with fail
  refine (G2.out _).mono ?_
  rintro e w2 ⟨v2, rfl, hS2, hB2⟩
  have HB2 := Lib.hid (bt HB1.out hB2)
  have HS1 := Lib.hid (HS1.out.kept hB2)
  have HS2 := Lib.hid hS2
  clear hB2 hS2
  go_wp2_with fail
  refine (G3.out _).mono ?_
  rintro e w3 ⟨rfl, hB3⟩
  have HB3 := Lib.hid (bt HB2.out hB3)
  have HS1 := Lib.hid (HS1.out.kept hB3)
  have HS2 := Lib.hid (HS2.out.kept hB3)
  clear hB3
  go_wp2_with fail
  refine (G4.out _).mono ?_
  rintro e w4 ⟨rfl, hB4⟩
  have HB4 := Lib.hid (bt HB3.out hB4)
  have HS1 := Lib.hid (HS1.out.kept hB4)
  have HS2 := Lib.hid (HS2.out.kept hB4)
  clear hB4
  go_wp2_with fail
  refine (G5.out _).mono ?_
  rintro e w5 ⟨v5, rfl, hS5, hB5⟩
  have HB5 := Lib.hid (bt HB4.out hB5)
  have HS1 := Lib.hid (HS1.out.kept hB5)
  have HS2 := Lib.hid (HS2.out.kept hB5)
  have HS5 := Lib.hid hS5
  clear hB5 hS5
  go_wp2_with fail
  refine (G6.out _).mono ?_
  rintro e w6 ⟨v6, rfl, hS6, hB6⟩
  have HB6 := Lib.hid (bt HB5.out hB6)
  have q1 := run_str_sl (P := Try.prog) w6 22 9 5 0 v1 G Try.underlying22 Try.underlying5 Try.underlying9 (HS1.out.kept hB6)
  have q2 := run_str_sl (P := Try.prog) w6 22 9 5 0 v2 G Try.underlying22 Try.underlying5 Try.underlying9 (HS2.out.kept hB6)
  have q5 := run_str_sl (P := Try.prog) w6 22 9 5 0 v5 S Try.underlying22 Try.underlying5 Try.underlying9 (HS5.out.kept hB6)
  have q6 := run_str_sl (P := Try.prog) w6 22 9 5 0 v6 S Try.underlying22 Try.underlying5 Try.underlying9 hS6
  clear hB6 hS6 HS1 HS2 HS5
  go_wp2_with fail
  refine (awake_any _).mono ?_
  rintro e w7 ⟨rfl, hB7⟩
  have HB7 := Lib.hid (bt HB6.out hB7)
  clear hB7
  go_wp2
  go_ret
  exact ⟨rfl, HB7.out⟩
end Go.Proofs.Ytjepedejclfnmaa
