/-
  The numbers of a list in order, each once: what Sort and Compact make of it. No program in sight.
-/
import Derived.Lib.SlicesCompact
import Derived.Lib.RowBridge
namespace Go.Proofs.Ytafididfgljfcaa
set_option linter.unusedVariables false

def lostB (zs : List Int) : List Int := Lib.compact (zs.mergeSort fun x y => decide (x ≤ y))

theorem compactUpTo_sorted (d : Array Int) (hs : ∀ i j, i ≤ j → j < d.size → d[i]! ≤ d[j]!) (m : Nat) (hm : m ≤ d.size) :
    (Lib.compactUpTo d m).Pairwise (· < ·) ∧ (∀ x, x ∈ Lib.compactUpTo d m ↔ ∃ j, j < m ∧ d[j]! = x) := by
  induction m with
  | zero => exact ⟨List.Pairwise.nil, fun x => ⟨fun h => (by cases h), fun ⟨j, hj, _⟩ => absurd hj (by omega)⟩⟩
  | succ m ih =>
    obtain ⟨h1, h2⟩ := ih (by omega)
    rw [Lib.compactUpTo_succ]
    by_cases hk : Lib.keeps d m = true
    · rw [hk, if_pos rfl]
      refine ⟨?_, fun x => ?_⟩
      · rw [List.pairwise_append]
        refine ⟨h1, List.pairwise_singleton _ _, fun a ha b hb => ?_⟩
        rw [List.mem_singleton] at hb
        subst hb
        obtain ⟨j, hj, rfl⟩ := (h2 a).1 ha
        have hne : d[m]! ≠ d[m - 1]! := by
          unfold Lib.keeps at hk
          rcases of_decide_eq_true hk with e | e
          · omega
          · exact e
        have a1 := hs j (m - 1) (by omega) (by omega)
        have a2 := hs (m - 1) m (by omega) (by omega)
        omega
      · rw [List.mem_append, List.mem_singleton, h2]
        constructor
        · rintro (⟨j, hj, e⟩ | e)
          · exact ⟨j, by omega, e⟩
          · exact ⟨m, by omega, e.symm⟩
        · rintro ⟨j, hj, e⟩
          by_cases c : j = m
          · subst c; exact Or.inr e.symm
          · exact Or.inl ⟨j, by omega, e⟩
    · have hk' : Lib.keeps d m = false := by simpa using hk
      rw [hk']
      have e0 : Lib.compactUpTo d m ++ (if false = true then [d[m]!] else []) = Lib.compactUpTo d m := by simp
      rw [e0]
      refine ⟨h1, fun x => ?_⟩
      rw [h2]
      constructor
      · rintro ⟨j, hj, e⟩; exact ⟨j, by omega, e⟩
      · rintro ⟨j, hj, e⟩
        by_cases c : j = m
        · subst c
          unfold Lib.keeps at hk'
          have := of_decide_eq_false hk'
          have hj0 : ¬ j = 0 := fun h => this (Or.inl h)
          have he : d[j]! = d[j - 1]! := Decidable.not_not.1 fun h => this (Or.inr h)
          exact ⟨j - 1, by omega, by rw [← he]; exact e⟩
        · exact ⟨j, by omega, e⟩
theorem toArray_get! (l : List Int) (i : Nat) (h : i < l.length) : l.toArray[i]! = l[i] := by
  rw [getElem!_pos l.toArray i (by simpa using h)]; rfl
theorem sorted_le (zs : List Int) : (zs.mergeSort fun x y => decide (x ≤ y)).Pairwise (· ≤ ·) := by
  refine (List.pairwise_mergeSort (le := fun x y : Int => decide (x ≤ y)) ?_ ?_ zs).imp ?_
  · intro a b c h1 h2
    have := of_decide_eq_true h1
    have := of_decide_eq_true h2
    exact decide_eq_true (by omega)
  · intro a b
    by_cases h : a ≤ b
    · rw [decide_eq_true h]; rfl
    · rw [decide_eq_true (by omega : b ≤ a), Bool.or_true]
  · intro a b h; exact of_decide_eq_true h
theorem compact_sorted (l : List Int) (hl : l.Pairwise (· ≤ ·)) : (Lib.compact l).Pairwise (· < ·) ∧ ∀ x, x ∈ Lib.compact l ↔ x ∈ l := by
  have := compactUpTo_sorted l.toArray (fun i j hij hj => by
    have hj' : j < l.length := by simpa using hj
    rw [toArray_get! l i (by omega), toArray_get! l j hj']
    by_cases e : i = j
    · subst e; exact Int.le_refl _
    · exact List.pairwise_iff_getElem.1 hl i j (by omega) hj' (by omega)) l.length (by simp)
  refine ⟨this.1, fun x => (this.2 x).trans ?_⟩
  rw [List.mem_iff_getElem]
  constructor
  · rintro ⟨j, hj, e⟩; exact ⟨j, hj, by rw [← toArray_get! l j hj]; exact e⟩
  · rintro ⟨j, hj, e⟩; exact ⟨j, hj, by rw [toArray_get! l j hj]; exact e⟩
theorem lost_lt (zs : List Int) : (lostB zs).Pairwise (· < ·) := (compact_sorted _ (sorted_le zs)).1
theorem lost_mem (zs : List Int) (x : Int) : x ∈ lostB zs ↔ x ∈ zs := by
  unfold lostB
  rw [(compact_sorted _ (sorted_le zs)).2 x, List.mem_mergeSort]
theorem lost_le (zs : List Int) : (lostB zs).Pairwise (· ≤ ·) := (lost_lt zs).imp fun h => by omega
theorem lost_len (zs : List Int) : (lostB zs).length ≤ zs.length := by
  refine Nat.le_trans (Lib.compact_length_le _) ?_
  rw [List.length_mergeSort]; exact Nat.le_refl _
theorem sorted_unique : ∀ (a b : List Int), a.Pairwise (· < ·) → b.Pairwise (· < ·) → (∀ x, x ∈ a ↔ x ∈ b) → a = b
  | [], [], _, _, _ => rfl
  | [], y :: b, _, _, h => by have := (h y).2 (by simp); cases this
  | x :: a, [], _, _, h => by have := (h x).1 (by simp); cases this
  | x :: a, y :: b, ha, hb, h => by
    rw [List.pairwise_cons] at ha hb
    have hxy : x = y := by
      rcases List.mem_cons.1 ((h x).1 (by simp)) with e | e
      · exact e
      · rcases List.mem_cons.1 ((h y).2 (by simp)) with e' | e'
        · exact e'.symm
        · have := hb.1 x e; have := ha.1 y e'; omega
    subst hxy
    rw [sorted_unique a b ha.2 hb.2 fun z => ?_]
    constructor
    · intro hz
      rcases List.mem_cons.1 ((h z).1 (List.mem_cons_of_mem _ hz)) with e | e
      · have := ha.1 z hz; omega
      · exact e
    · intro hz
      rcases List.mem_cons.1 ((h z).2 (List.mem_cons_of_mem _ hz)) with e | e
      · have := hb.1 z hz; omega
      · exact e
theorem lost_congr (a b : List Int) (h : ∀ x, x ∈ a ↔ x ∈ b) : lostB a = lostB b :=
  sorted_unique _ _ (lost_lt a) (lost_lt b) fun x => by rw [lost_mem, lost_mem]; exact h x
theorem lost_id (a : List Int) (h : a.Pairwise (· < ·)) : lostB a = a :=
  sorted_unique _ _ (lost_lt a) h fun x => lost_mem a x
end Go.Proofs.Ytafididfgljfcaa
