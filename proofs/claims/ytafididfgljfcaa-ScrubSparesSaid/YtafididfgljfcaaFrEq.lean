/-
  '==' of two frames.
-/
import Derived.Test.YtafididfgljfcaaAwk
namespace Go.Proofs.Ytafididfgljfcaa
open Go.RowKit
set_option linter.unusedVariables false
theorem baEq (a b : ByteArray) : (a == b) = decide (a = b) := by
  cases a with | mk x => cases b with | mk y =>
  have e : ((⟨x⟩ : ByteArray) == ⟨y⟩) = (x == y) := rfl
  rw [e]
  by_cases h : x = y
  · subst h; simp
  · simp [h]
theorem eqInt (d : Nat) (a b : Int) (w : World) : (Op.equalIn (d + 1) 3 (iv a) (iv b)).run Try.prog w = .ok (a == b) w := by
  unfold Op.equalIn
  simp [run_underlying Try.underlying3, Result.andThen]
theorem eqU32 (d : Nat) (a b : Int) (w : World) : (Op.equalIn (d + 1) 37 (.int .u32 a) (.int .u32 b)).run Try.prog w = .ok (a == b) w := by
  unfold Op.equalIn
  simp [run_underlying Try.underlying37, Result.andThen]
theorem eqStr (d : Nat) (a b : ByteArray) (w : World) : (Op.equalIn (d + 1) 9 (.string a) (.string b)).run Try.prog w = .ok (decide (a = b)) w := by
  unfold Op.equalIn
  simp [baEq, run_underlying Try.underlying9, Result.andThen]
theorem partInt (xs : Array Value) (o : Nat) (v : Value) (w : World) (h : xs[o]? = some v) : (part 3 xs o).run Try.prog w = .ok v w := by
  unfold part
  simp [Try.isAgg3, h, Result.andThen]
theorem partU32 (xs : Array Value) (o : Nat) (v : Value) (w : World) (h : xs[o]? = some v) : (part 37 xs o).run Try.prog w = .ok v w := by
  unfold part
  simp [Try.isAgg37, h, Result.andThen]
theorem partStr (xs : Array Value) (o : Nat) (v : Value) (w : World) (h : xs[o]? = some v) : (part 9 xs o).run Try.prog w = .ok v w := by
  unfold part
  simp [Try.isAgg9, h, Result.andThen]
theorem eqLayout (d : Nat) (a b a' b' : Int) (w : World) : (Op.equalIn (d + 2) 36 (.agg #[iv a, iv b]) (.agg #[iv a', iv b'])).run Try.prog w = .ok (decide (a = a' ∧ b = b')) w := by
  unfold Op.equalIn
  by_cases h1 : a = a'
  · by_cases h2 : b = b'
    · simp [run_underlying Try.underlying36, Result.andThen, partInt, eqInt, h1, h2]
    · simp [run_underlying Try.underlying36, Result.andThen, partInt, eqInt, h1, h2]
  · simp [run_underlying Try.underlying36, Result.andThen, partInt, eqInt, h1]
theorem partLay (x0 x1 x2 x3 x4 x5 x6 x7 x8 : Value) (w : World) : (part 36 #[x0, x1, x2, x3, x4, x5, x6, x7, x8] 5).run Try.prog w = .ok (.agg #[x5, x6]) w := by
  unfold part
  simp [Try.isAgg36, Try.sizeOf36, Result.andThen]
set_option maxHeartbeats 800000 in
theorem run_eqF (f g : Fr) (w : World) : (binOp .eql 39 f.v g.v).run Try.prog w = .ok (.bool (decide (f = g))) w := by
  obtain ⟨a1, a2, a3, a4, a5, a6, a7, a8, a9⟩ := f
  obtain ⟨b1, b2, b3, b4, b5, b6, b7, b8, b9⟩ := g
  simp only [binOp]
  simp only [Fr.v, Fr.cs, Op.equal, Op.maxDepth, Sem.run_bind]
  unfold Op.equalIn
  by_cases h1 : a1 = b1
  · by_cases h2 : a2 = b2
    · by_cases h3 : a3 = b3
      · by_cases h4 : a4 = b4
        · by_cases h5 : a5 = b5
          · by_cases h6 : a6 = b6 ∧ a7 = b7
            · by_cases h7 : a8 = b8
              · by_cases h8 : a9 = b9
                · simp [run_underlying Try.underlying39, Result.andThen, partInt, partU32, partStr, partLay, eqInt, eqU32, eqStr, eqLayout, h1, h2, h3, h4, h5, h6, h7, h8]
                · simp [run_underlying Try.underlying39, Result.andThen, partInt, partU32, partStr, partLay, eqInt, eqU32, eqStr, eqLayout, h1, h2, h3, h4, h5, h6, h7, h8]
              · simp [run_underlying Try.underlying39, Result.andThen, partInt, partU32, partLay, eqInt, eqU32, eqLayout, h1, h2, h3, h4, h5, h6, h7]
            · simp [run_underlying Try.underlying39, Result.andThen, partInt, partLay, eqInt, eqLayout, h1, h2, h3, h4, h5, h6]
              exact fun e1 e2 => absurd ⟨e1, e2⟩ h6
          · simp [run_underlying Try.underlying39, Result.andThen, partInt, eqInt, h1, h2, h3, h4, h5]
        · simp [run_underlying Try.underlying39, Result.andThen, partInt, eqInt, h1, h2, h3, h4]
      · simp [run_underlying Try.underlying39, Result.andThen, partInt, eqInt, h1, h2, h3]
    · simp [run_underlying Try.underlying39, Result.andThen, partInt, eqInt, h1, h2]
  · simp [run_underlying Try.underlying39, Result.andThen, partInt, eqInt, h1]
end Go.Proofs.Ytafididfgljfcaa
