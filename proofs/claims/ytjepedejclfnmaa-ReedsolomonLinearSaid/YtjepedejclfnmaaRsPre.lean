/-
  What the laws on two words begin with.
-/
import Derived.Test.YtjepedejclfnmaaRef07b
namespace Go.Proofs.Ytjepedejclfnmaa
open Go.RowKit
set_option linter.unusedVariables false

theorem u8_of {q : Int} (h : (Lit.int .u8 q).wf = true) : ∃ Q : Nat, Q < 256 ∧ q = Q := by
  simp only [Lit.wf, Bool.and_eq_true, decide_eq_true_eq] at h
  have h1 : (0 : Int) ≤ q := h.1
  have h2 : q ≤ 255 := h.2
  exact ⟨q.toNat, by omega, by omega⟩
theorem words_use (a b : ByteArray) (ha : a.size ≤ maxLen) (hb : b.size ≤ maxLen) (Q : Nat) (hQ : Q < 256) : ∃ (p n : Nat) (X Y : ByteArray), 1 ≤ p ∧ p ≤ 64 ∧ n + p ≤ 255 ∧ p = Q % 64 + 1 ∧ n = min (min a.size b.size) (255 - p)
    ∧ X.data.toList = encB (a.data.toList.take n) p ∧ Y.data.toList = encB (b.data.toList.take n) p ∧ X.size = n + p ∧ Y.size = n + p ∧ (a.data.toList.take n).length = n ∧ (b.data.toList.take n).length = n
    ∧ ∀ w, Calls Try.prog 18 #[.string a, .string b, .int .u8 Q] w fun e w' => e = .returned (.tuple #[.string X, .string Y, .int .i64 p, .bool true]) ∧ Below w.heap.size w w' := by
  obtain ⟨p, hp⟩ : ∃ p, Q % 64 + 1 = p := ⟨_, rfl⟩
  obtain ⟨n, hn⟩ : ∃ n, min (min a.size b.size) (255 - p) = n := ⟨_, rfl⟩
  have hla : (a.data.toList.take n).length = n := by rw [List.length_take]; show min n a.size = n; omega
  have hlb : (b.data.toList.take n).length = n := by rw [List.length_take]; show min n b.size = n; omega
  refine ⟨p, n, ⟨(encB (a.data.toList.take n) p).toArray⟩, ⟨(encB (b.data.toList.take n) p).toArray⟩, by omega, by omega, by omega, hp.symm, hn.symm, rfl, rfl, enc_size rfl hla, enc_size rfl hlb, hla, hlb, fun w => ?_⟩
  exact words_any a b Q ha hb hQ w p n hp.symm hn.symm
end Go.Proofs.Ytjepedejclfnmaa
