/-
  slices.Clone, Sort, Compact and BinarySearch at []int, off the shelf, in the words of rows of integers.
-/
import Derived.Test.YtamkahjdedomlaaShelf08
import Derived.Test.YtamkahjdedomlaaInts
import Derived.Test.YtamkahjdedomlaaLost
namespace Go.Proofs.Ytamkahjdedomlaa
open Go.RowKit
set_option linter.unusedVariables false

/-- The slice v reads as the numbers l. -/
def RdI (w : World) (v : Value) (l : List Int) : Prop :=
  (∃ a cap, v = .slice a 0 cap ∧ l = []) ∨ ∃ b off cap, v = .slice (some ⟨b, off, none⟩) l.length cap ∧ l ≠ [] ∧ ∀ i, i < l.length → w.cell? ⟨b, off + i, none⟩ = some (.int .i64 (l[i]?.getD 0))
theorem RdI.kept {w w' : World} {v : Value} {l : List Int} (h : RdI w v l) (hb : Below w.heap.size w w') : RdI w' v l := by
  rcases h with h | ⟨b, off, cap, h1, h2, h3⟩
  · exact Or.inl h
  · refine Or.inr ⟨b, off, cap, h1, h2, fun i hi => ?_⟩
    have hlt := World.block_lt_of_cell? w _ (h3 i hi)
    exact (hb.cell (p := ⟨b, off + i, none⟩) hlt).trans (h3 i hi)
theorem SlI.rd {w : World} {B : Nat} {v : Value} {l : List Int} (h : SlI w B v l) : RdI w v l := by
  rcases h with h | ⟨g, cap, h1, h2, h3, h4, h5, h6⟩
  · exact Or.inl h
  · exact Or.inr ⟨g, 0, cap, h1, h2, fun i hi => by rw [Nat.zero_add]; exact h6.at i hi⟩
theorem getD_at (l : List Int) (i : Nat) (h : i < l.length) : l.getD i 0 = l[i]?.getD 0 := List.getD_eq_getElem?_getD ..

theorem clone_ints (v : Value) (l : List Int) (w : World) (hv : RdI w v l) (hz : l.length ≤ 100000) : Calls Try.prog 23 #[v] w fun e w' => ∃ v', e = .returned v' ∧ SlI w' w.heap.size v' l ∧ Below w.heap.size w w' := by
  rcases hv with ⟨a, cap, rfl, rfl⟩ | ⟨b, off, cap, rfl, h2, h3⟩
  · cases a with
    | none => exact (Try.slices_Clone_int_nil 0 cap w).mono fun e w' ⟨a, b⟩ => ⟨_, a, Or.inl ⟨_, _, rfl, rfl⟩, by rw [b]; exact Below.refl _ _⟩
    | some a => exact (Try.slices_Clone_int_zero a cap w).mono fun e w' ⟨v', a, b, _, c⟩ => ⟨v', a, slI_of_owns (l := []) b rfl, c⟩
  · refine (Try.slices_Clone_int b off l.length cap l w (Nat.le_refl _) (by omega) (fun j hj => by rw [getD_at l j hj]; exact h3 j hj)).mono ?_
    rintro e w' ⟨v', a, b, _, c⟩
    rw [List.take_length] at b
    exact ⟨v', a, slI_of_owns b rfl, c⟩

theorem holdsI {w : World} {g : Nat} {l : List Int} (h : CellsI w g l) : Sort.Holds (Value.int .i64) w g 0 l.toArray := by
  intro j hj
  have hj' : j < l.length := by simpa using hj
  have e : l.toArray[j]! = l[j]?.getD 0 := by rw [toArray_get! l j hj', List.getElem?_eq_getElem hj']; rfl
  rw [Nat.zero_add, e]
  exact ⟨h.at j hj', h.free j hj'⟩
theorem cellsI_of_holds {w : World} {g : Nat} {l : List Int} (hg : g < w.heap.size) (h : Sort.Holds (Value.int .i64) w g 0 l.toArray) : CellsI w g l := by
  refine ⟨hg, fun i hi => ?_⟩
  have := h i (by simpa using hi)
  have e : l.toArray[i]! = l[i]?.getD 0 := by rw [toArray_get! l i hi, List.getElem?_eq_getElem hi]; rfl
  rw [Nat.zero_add, e] at this
  exact this
theorem below_putRow {B : Nat} {w : World} {g : Nat} (d : Array Int) (hB : B ≤ g) : Below B w (Sort.putRow (Value.int .i64) w g 0 d) := by
  refine ⟨rfl, rfl, rfl, by simp, fun k hk => ?_⟩
  show (w.heap.modify g _)[k]? = _
  rw [Array.getElem?_modify, if_neg (by omega)]
theorem below_ahead (B : Nat) (w : World) (n : Nat) : Below B w (Sort.ahead w n) := ⟨rfl, rfl, rfl, Nat.le_refl _, fun _ _ => rfl⟩
theorem below_growS {B : Nat} {w : World} (os : Array Obj) (hB : B ≤ w.heap.size) : Below B w (Sort.grow w os) :=
  ⟨rfl, rfl, rfl, by simp, fun k hk => Sort.heap_grow_old w os (by omega)⟩

theorem sort_ints (B : Nat) (v : Value) (l : List Int) (w : World) (hv : SlI w B v l) (hz : l.length ≤ 100000) : Calls Try.prog 24 #[v] w fun e w' => e = .returned (.tuple #[]) ∧ SlI w' B v (l.mergeSort fun x y => decide (x ≤ y)) ∧ Below B w w' := by
  rcases hv with ⟨a, cap, rfl, rfl⟩ | ⟨g, cap, rfl, h2, h3, h4, h5, h6⟩
  · exact (Try.slices_Sort_int_none a cap w).mono fun e w' ⟨a, b⟩ => ⟨a, Or.inl ⟨_, _, rfl, by simp⟩, by rw [b]; exact Below.refl _ _⟩
  · refine (Try.slices_Sort_int g 0 cap l w (holdsI h6) h6.1 (by omega)).mono ?_
    rintro e w' ⟨a, n, os, rfl⟩
    have hlen := List.length_mergeSort (le := fun x y : Int => decide (x ≤ y)) l
    refine ⟨a, ?_, ?_⟩
    · rw [← hlen]
      refine SlI.of_cells (cellsI_of_holds (by simp; have := h6.1; omega) ?_) h5 (by rw [hlen]; exact h3) h4 _ rfl
      refine Sort.holds_grow _ _ _ _ _ _ (by simpa using h6.1) ?_
      exact Sort.holds_putRow _ _ _ _ l.toArray _ (holdsI h6) (by simp [hlen])
    · refine ((below_ahead B w n).trans (below_putRow _ h5)).trans (below_growS _ ?_)
      have := h6.1; simp; omega
theorem compact_ints (B : Nat) (v : Value) (l : List Int) (w : World) (hv : SlI w B v l) (hz : l.length ≤ 100000) : Calls Try.prog 25 #[v] w fun e w' => ∃ v', e = .returned v' ∧ SlI w' B v' (Lib.compact l) ∧ Below B w w' := by
  rcases hv with ⟨a, cap, rfl, rfl⟩ | ⟨g, cap, rfl, h2, h3, h4, h5, h6⟩
  · exact (Try.slices_Compact_int_empty a cap w).mono fun e w' ⟨a, b⟩ => ⟨_, a, Or.inl ⟨_, _, rfl, rfl⟩, by rw [b]; exact Below.refl _ _⟩
  · refine (Try.slices_Compact_int g 0 cap l w (holdsI h6) (by omega) h3).mono ?_
    rintro e w' ⟨a, n, rfl⟩
    have hle := Lib.compact_length_le l
    refine ⟨_, a, ?_, (below_ahead B w n).trans (below_putRow _ h5)⟩
    refine SlI.of_cells (CellsI.fore (m := List.replicate (l.length - (Lib.compact l).length) 0) (cellsI_of_holds (by simpa using h6.1) ?_)) h5 (by omega) h4 _ rfl
    exact Sort.holds_putRow _ _ _ _ l.toArray _ (holdsI h6) (by simp; omega)
theorem bsearch_ints (v : Value) (l : List Int) (x : Int) (w : World) (hv : SlI w 0 v l) (hz : l.length ≤ 100000) (hs : l.Pairwise (· ≤ ·)) : Calls Try.prog 34 #[v, .int .i64 x] w fun e w' => ∃ k : Nat, e = .returned (.tuple #[.int .i64 k, .bool (l.contains x)]) ∧ ∃ q, w' = w.drewN q := by
  rcases hv with ⟨a, cap, rfl, rfl⟩ | ⟨g, cap, rfl, h2, h3, h4, h5, h6⟩
  · exact (Try.slices_BinarySearch_int_empty a cap x w).mono fun e w' ⟨a, b⟩ => ⟨0, a, 0, b⟩
  · refine (Try.slices_BinarySearch_int g 0 l.length cap l x w (Nat.le_refl _) (by omega) (fun j hj => by rw [getD_at l j hj, Nat.zero_add]; exact h6.at j hj) (by rw [List.take_length]; exact hs)).mono ?_
    rintro e w' ⟨a, b⟩
    rw [List.take_length] at a
    exact ⟨_, a, b⟩
end Go.Proofs.Ytamkahjdedomlaa
