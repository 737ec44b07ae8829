/-
  Plain facts on searching marks.
-/
import Derived.Test.YtcklenkpalfjgaaSmPlain
namespace Go.Proofs.Ytcklenkpalfjgaa.Sm
/-- What the search answers: the first offset with a distance of at most 2, or none. -/
def Found (s : ByteArray) (k i : Nat) : Prop := k ≤ i ∧ i + 16 ≤ s.size ∧ dist s i ≤ 2 ∧ ∀ j, k ≤ j → j < i → ¬ dist s j ≤ 2
def Nowhere (s : ByteArray) (k : Nat) : Prop := ∀ j, k ≤ j → j + 16 ≤ s.size → ¬ dist s j ≤ 2
theorem find_cases (s : ByteArray) (n : Nat) : ∀ k, s.size + 1 - k = n → (∃ i : Nat, find s k = ((i : Int), true) ∧ Found s k i) ∨ (find s k = (0, false) ∧ Nowhere s k) := by
  induction n with
  | zero => exact fun k hk => Or.inr ⟨find_end s k (by omega), fun j h1 h2 => by omega⟩
  | succ n ih =>
    intro k hk
    by_cases h : k + 16 ≤ s.size
    · by_cases hd : dist s k ≤ 2
      · exact Or.inl ⟨k, find_hit s k h hd, Nat.le_refl _, h, hd, fun j h1 h2 => by omega⟩
      · rcases ih (k + 1) (by omega) with ⟨i, e, h1, h2, h3, h4⟩ | ⟨e, h1⟩
        · refine Or.inl ⟨i, (find_step s k h hd).trans e, by omega, h2, h3, fun j a b => ?_⟩
          by_cases ej : j = k
          · subst ej; exact hd
          · exact h4 j (by omega) b
        · refine Or.inr ⟨(find_step s k h hd).trans e, fun j a b => ?_⟩
          by_cases ej : j = k
          · subst ej; exact hd
          · exact h1 j (by omega) b
    · exact Or.inr ⟨find_end s k h, fun j h1 h2 => by omega⟩
theorem find_of_found (s : ByteArray) (k i : Nat) (h : Found s k i) : find s k = ((i : Int), true) := by
  obtain ⟨h1, h2, h3, h4⟩ := h
  rcases find_cases s _ k rfl with ⟨i', e, g1, g2, g3, g4⟩ | ⟨e, g⟩
  · have : i' = i := by
      by_cases a : i' < i
      · exact absurd g3 (h4 i' g1 a)
      · by_cases b : i < i'
        · exact absurd h3 (g4 i h1 b)
        · omega
    rw [e, this]
  · exact absurd h3 (g i h1 h2)
theorem find_of_nowhere (s : ByteArray) (k : Nat) (h : Nowhere s k) : find s k = (0, false) := by
  rcases find_cases s _ k rfl with ⟨i', e, g1, g2, g3, g4⟩ | ⟨e, g⟩
  · exact absurd g3 (h i' g1 g2)
  · exact e
end Go.Proofs.Ytcklenkpalfjgaa.Sm
