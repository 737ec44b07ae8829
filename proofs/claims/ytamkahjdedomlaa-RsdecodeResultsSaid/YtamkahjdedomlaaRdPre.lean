/-
  What the laws of rsdecode share: small, the map of bools, arguments as they come in.
-/
import Derived.Test.YtamkahjdedomlaaDk6
import Derived.Test.YtamkahjdedomlaaDecPlain
import Derived.Test.YtamkahjdedomlaaLawOpen
namespace Go.Proofs.Ytamkahjdedomlaa
open Go.RowKit
set_option linter.unusedVariables false

theorem IsInts.rd {w : World} {v : Value} {zs : List Int} (h : IsInts .i64 w v zs) : RdI w v zs := by
  rcases h with h | ⟨b, off, cap, h1, h2, h3, h4, h5, h6, h7⟩
  · exact Or.inl h
  · exact Or.inr ⟨b, off, cap, h1, h5, h6⟩
theorem IsInts.wf {w : World} {v : Value} {zs : List Int} (h : IsInts .i64 w v zs) : ∀ n ∈ zs, (Lit.int .i64 n).wf = true := by
  rcases h with ⟨a, cap, h1, rfl⟩ | ⟨b, off, cap, h1, h2, h3, h4, h5, h6, h7⟩
  · intro n hn; cases hn
  · exact h7
theorem RdI.form {w : World} {v : Value} {l : List Int} (h : RdI w v l) : ∃ a off cap, v = .slice a l.length cap ∧ ∀ i, i < l.length → ∃ b, a = some ⟨b, off, none⟩ ∧ b < w.heap.size ∧ w.cell? ⟨b, off + i, none⟩ = some (.int .i64 (l[i]?.getD 0)) := by
  rcases h with ⟨a, cap, rfl, rfl⟩ | ⟨b, off, cap, e1, e2, e3⟩
  · exact ⟨a, 0, cap, rfl, fun i hi => by simp at hi⟩
  · exact ⟨_, off, cap, e1, fun i hi => ⟨b, rfl, World.block_lt_of_cell? w _ (e3 i hi), e3 i hi⟩⟩

def smallB (s : Nat) (p : Int) (n : Nat) : Bool := decide (s ≤ 60 ∧ p ≤ 16 ∧ n ≤ 40)
theorem small_any (s : ByteArray) (p : Int) (v : Option Addr) (n c : Nat) (w : World) (hs : s.size ≤ 9223372036854775807) (hn : n ≤ 9223372036854775807) (b : Bool) (hb : Hid (smallB s.size p n = b)) :
    Calls Try.prog 15 #[.string s, .int .i64 p, .slice v n c] w fun e w' => e = .returned (.bool b) ∧ w = w' := by
  rw [← hb.out]
  by_cases h1 : s.size ≤ 60
  · by_cases h2 : p ≤ 16
    · have h1' : (s.size : Int) ≤ 60 := by omega
      have e : smallB s.size p n = decide ((n : Int) ≤ 40) := by unfold smallB; rw [decide_eq_decide]; omega
      rw [e]
      go_enter Try.func15, Try.ntmps15
      go_wp2
      all_goals (go_ret; first | exact ⟨rfl, rfl⟩ | exact ⟨ret_bool (by first | (rw [decide_eq_true (by omega)]) | (rw [decide_eq_false (by omega)]) | (rw [decide_eq_decide]; omega)), rfl⟩)
    · have e : smallB s.size p n = false := by unfold smallB; exact decide_eq_false (by omega)
      rw [e]
      go_enter Try.func15, Try.ntmps15
      go_wp2
      go_ret
      exact ⟨rfl, rfl⟩
  · have e : smallB s.size p n = false := by unfold smallB; exact decide_eq_false (by omega)
    rw [e]
    go_enter Try.func15, Try.ntmps15
    go_wp2
    go_ret
    exact ⟨rfl, rfl⟩

theorem encI : Enc Try.prog 3 (fun n : Int => Value.int .i64 n) := enc_int Try.underlying3
theorem keyI {n : Int} (h : (Lit.int .i64 n).wf = true) : keyOf Try.prog 3 (.int .i64 n) = some (.int .i64 n) := Maps.keyOf_int_mk Try.underlying3 h
theorem keyN (n : Nat) (h : n ≤ 1000000) : keyOf Try.prog 3 (.int .i64 n) = some (.int .i64 n) := keyI (WalkArith.wf_i64 (by omega))
theorem zeroBool (w : World) : (zeroValue 4).run Try.prog w = .ok (.bool false) w := by kernel_rfl
/-- A map[int]bool of the call's own. -/
abbrev IsSet (w : World) (b : Nat) (l : List (Int × Bool)) : Prop := MapIs w Try.prog 3 (fun n : Int => Value.int .i64 n) Value.bool b l
theorem str_of (o : List UInt8) : ∃ X : ByteArray, ⟨o.toArray⟩ = X ∧ X.data.toList = o ∧ X.size = o.length := ⟨_, rfl, rfl, rfl⟩
end Go.Proofs.Ytamkahjdedomlaa
