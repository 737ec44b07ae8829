/-
  What the law ScrubSpares builds, and what Safe says of it. No program in sight.
-/
import Derived.Test.YtafididfgljfcaaLawsP
import Derived.Test.YtafididfgljfcaaFrm
namespace Go.Proofs.Ytafididfgljfcaa
open Go.RowKit
set_option linter.unusedVariables false

def spFr (D S k i : Nat) : Fr := lawFr (UInt8.ofNat i) (UInt8.ofNat k) (D : Int) (S : Int)
def spSg (f : Fr) : Sg := ⟨0, 0, f, 0, 0, 0⟩
def spRow (D S k n : Nat) : List Fr := (List.range n).map (spFr D S k)
def spSgs (L : Nat → Nat → Bool) (D S k n : Nat) : List Sg := ((List.range n).filter fun i => !L k i).map fun i => spSg (spFr D S k i)
def spW (D S m k i : Nat) : List Fr := ((List.range k).flatMap fun j => spRow D S j m) ++ spRow D S k i
def spG (L : Nat → Nat → Bool) (D S m k i : Nat) : List Sg := ((List.range k).flatMap fun j => spSgs L D S j m) ++ spSgs L D S k i
def spN (L : Nat → Nat → Bool) (k n : Nat) : Nat := ((List.range n).filter fun i => L k i).length
def spOk (L : Nat → Nat → Bool) (S m k : Nat) : Bool := (List.range k).all fun j => decide (spN L j m ≤ S)
section
variable (L : Nat → Nat → Bool) (D S m k i : Nat)
theorem spW_step : spW D S m k (i + 1) = spW D S m k i ++ [spFr D S k i] := by
  unfold spW spRow
  rw [List.range_succ, List.map_append, List.append_assoc]; rfl
theorem spW_next : spW D S m (k + 1) 0 = spW D S m k m := by
  unfold spW
  rw [List.range_succ, List.flatMap_append]
  simp [spRow]
theorem spG_lost (h : L k i = true) : spG L D S m k (i + 1) = spG L D S m k i := by
  unfold spG spSgs
  rw [List.range_succ, List.filter_append]
  simp [h]
theorem spG_kept (h : L k i = false) : spG L D S m k (i + 1) = spG L D S m k i ++ [spSg (spFr D S k i)] := by
  unfold spG spSgs
  rw [List.range_succ, List.filter_append]
  simp [h]
theorem spG_next : spG L D S m (k + 1) 0 = spG L D S m k m := by
  unfold spG
  rw [List.range_succ, List.flatMap_append]
  simp [spSgs]
theorem spN_lost (h : L k i = true) : spN L k (i + 1) = spN L k i + 1 := by
  unfold spN
  rw [List.range_succ, List.filter_append]
  simp [h]
theorem spN_kept (h : L k i = false) : spN L k (i + 1) = spN L k i := by
  unfold spN
  rw [List.range_succ, List.filter_append]
  simp [h]
theorem spOk_next : spOk L S m (k + 1) = (spOk L S m k && decide (spN L k m ≤ S)) := by
  unfold spOk
  rw [List.range_succ, List.all_append]
  simp
theorem spN_le : spN L k i ≤ i := by
  unfold spN
  exact Nat.le_trans (List.length_filter_le _ _) (by rw [List.length_range]; exact Nat.le_refl _)
theorem spW_len : (spW D S m k i).length = k * m + i := by
  unfold spW
  rw [List.length_append]
  have h1 : ((List.range k).flatMap fun j => spRow D S j m).length = k * m := by
    induction k with
    | zero => simp
    | succ k ih => rw [List.range_succ, List.flatMap_append, List.length_append, ih]; simp [spRow, Nat.succ_mul]
  rw [h1]
  simp [spRow]
theorem spG_len : (spG L D S m k i).length ≤ k * m + i := by
  unfold spG
  rw [List.length_append]
  have h0 : ∀ j n, (spSgs L D S j n).length ≤ n := fun j n => by
    unfold spSgs
    rw [List.length_map]
    exact Nat.le_trans (List.length_filter_le _ _) (by rw [List.length_range]; exact Nat.le_refl _)
  have h1 : ((List.range k).flatMap fun j => spSgs L D S j m).length ≤ k * m := by
    induction k with
    | zero => simp
    | succ k ih =>
      rw [List.range_succ, List.flatMap_append, List.length_append, Nat.succ_mul]
      have := h0 k m
      simp only [List.flatMap_cons, List.flatMap_nil, List.append_nil]
      omega
  have := h0 k i
  omega
end
theorem filter_both {α : Type} (p : α → Bool) (l : List α) : (l.filter p).length + (l.filter fun x => !p x).length = l.length := by
  induction l with
  | nil => rfl
  | cons x l ih =>
    cases h : p x <;> simp [h] <;> omega
theorem u8_ofNat (n : Nat) (h : n < 256) : (UInt8.ofNat n).toNat = n := by rw [UInt8.toNat_ofNat']; omega
theorem spFr_inj {D S k i k' i' : Nat} (hk : k < 256) (hi : i < 256) (hk' : k' < 256) (hi' : i' < 256) (h : spFr D S k i = spFr D S k' i') : k = k' ∧ i = i' := by
  have h1 := congrArg Fr.reel h
  have h2 := congrArg Fr.index h
  simp only [spFr, lawFr, u8_ofNat _ hi, u8_ofNat _ hi'] at h1
  simp only [spFr, lawFr, u8_ofNat _ hk, u8_ofNat _ hk'] at h2
  omega
def spGr (k : Nat) : Gr := ⟨0, 1, 66, k⟩
theorem spFr_group {D S k i : Nat} (hk : k < 256) : (spFr D S k i).group = spGr k := by
  simp only [spFr, lawFr, Fr.group, spGr, u8_ofNat _ hk]
theorem spFr_need (D S k i : Nat) : needOf (spFr D S k i) = D := by
  unfold needOf; rfl
theorem spFr_reel {D S k i : Nat} (hi : i < 256) : (spFr D S k i).reel = i := by
  simp only [spFr, lawFr, u8_ofNat _ hi]
theorem spW_mem (D S m K : Nat) (f : Fr) : f ∈ spW D S m K 0 ↔ ∃ k i, k < K ∧ i < m ∧ f = spFr D S k i := by
  unfold spW
  simp only [spRow, List.range_zero, List.map_nil, List.append_nil, List.mem_flatMap, List.mem_range, List.mem_map]
  constructor
  · rintro ⟨k, hk, i, hi, rfl⟩; exact ⟨k, i, hk, hi, rfl⟩
  · rintro ⟨k, i, hk, hi, rfl⟩; exact ⟨k, hk, i, hi, rfl⟩
theorem spG_mem (L : Nat → Nat → Bool) (D S m K : Nat) (s : Sg) : s ∈ spG L D S m K 0 ↔ ∃ k i, k < K ∧ i < m ∧ L k i = false ∧ s = spSg (spFr D S k i) := by
  unfold spG
  simp only [spSgs, List.range_zero, List.filter_nil, List.map_nil, List.append_nil, List.mem_flatMap, List.mem_range, List.mem_map, List.mem_filter, Bool.not_eq_true']
  constructor
  · rintro ⟨k, hk, i, ⟨hi, hl⟩, rfl⟩; exact ⟨k, i, hk, hi, hl, rfl⟩
  · rintro ⟨k, i, hk, hi, hl, rfl⟩; exact ⟨k, hk, i, ⟨hi, hl⟩, rfl⟩
theorem spBest (L : Nat → Nat → Bool) (D S m K k i : Nat) (hK : K ≤ 256) (hm : m ≤ 256) (hk : k < K) (hi : i < m) : best (spG L D S m K 0) (spFr D S k i) ≠ none ↔ L k i = false := by
  constructor
  · intro h
    cases hl : L k i with
    | false => rfl
    | true =>
      refine absurd ((best_none _ _).2 fun s hs e => ?_) h
      obtain ⟨k', i', hk', hi', hl', rfl⟩ := (spG_mem L D S m K s).1 hs
      obtain ⟨rfl, rfl⟩ := spFr_inj (by omega) (by omega) (by omega) (by omega) (show spFr D S k' i' = spFr D S k i from e)
      rw [hl] at hl'; cases hl'
  · intro hl h
    exact (best_none _ _).1 h _ ((spG_mem L D S m K _).2 ⟨k, i, hk, hi, hl, rfl⟩) rfl
theorem spSafe (L : Nat → Nat → Bool) (D S m K : Nat) (hD : 1 ≤ D) (hm : m = D + S) (hm2 : m ≤ 256) (hK : K ≤ 256) : safeL (spG L D S m K 0) (spW D S m K 0) = spOk L S m K := by
  have hun : ∀ k, ((List.range m).filter fun i => !L k i).length + spN L k m = m := by
    intro k
    have := filter_both (fun i => L k i) (List.range m)
    rw [List.length_range] at this
    unfold spN; omega
  rw [Bool.eq_iff_iff, safeL_iff]
  unfold spOk
  rw [List.all_eq_true]
  constructor
  · intro h k hk
    rw [List.mem_range] at hk
    refine decide_eq_true ?_
    have h0 : spFr D S k 0 ∈ spW D S m K 0 := (spW_mem D S m K _).2 ⟨k, 0, hk, by omega, rfl⟩
    cases hf : (spW D S m K 0).find? (fun f => decide (f.group = spGr k)) with
    | none =>
      exact absurd (spFr_group (by omega)) ((find_none_iff _ _).1 hf _ h0)
    | some f =>
      obtain ⟨k', i', _, _, rfl⟩ := (spW_mem D S m K f).1 (List.mem_of_find?_eq_some hf)
      obtain ⟨R, hR, hRm, hRn⟩ := h (spGr k) D (by rw [hf]; exact congrArg some (spFr_need D S k' i'))
      have hle : R.length ≤ (((List.range m).filter fun i => !L k i).map fun i : Nat => (i : Int)).length := hR.length_le_of_subset fun x hx => by
        obtain ⟨f, hf, e1, rfl, e3⟩ := hRm x hx
        obtain ⟨k2, i2, hk2, hi2, rfl⟩ := (spW_mem D S m K f).1 hf
        rw [spFr_group (by omega)] at e1
        have ek : (k2 : Int) = k := congrArg Gr.index e1
        obtain rfl : k2 = k := by omega
        rw [spFr_reel (by omega)]
        refine List.mem_map.2 ⟨i2, List.mem_filter.2 ⟨List.mem_range.2 hi2, ?_⟩, rfl⟩
        rw [(spBest L D S m K k2 i2 hK hm2 hk2 hi2).1 e3]; rfl
      rw [List.length_map] at hle
      have := hun k
      omega
  · intro h g n hn
    cases hf : (spW D S m K 0).find? (fun f => decide (f.group = g)) with
    | none => rw [hf] at hn; cases hn
    | some f =>
      rw [hf] at hn
      have hg : f.group = g := by
        have := List.find?_some (p := fun f : Fr => decide (f.group = g)) hf
        exact of_decide_eq_true this
      obtain ⟨k, i, hk, hi, rfl⟩ := (spW_mem D S m K f).1 (List.mem_of_find?_eq_some hf)
      rw [spFr_group (by omega)] at hg
      subst hg
      have hn' : (D : Int) = n := by
        have := Option.some.inj hn
        rw [← this]; exact (spFr_need D S k i).symm
      subst hn'
      have h1 := of_decide_eq_true (h k (List.mem_range.2 hk))
      refine ⟨((List.range m).filter fun i => !L k i).map fun i : Nat => (i : Int), ?_, fun x hx => ?_, ?_⟩
      · rw [List.nodup_iff_pairwise_ne, List.pairwise_map]
        refine List.Pairwise.imp ?_ (List.Pairwise.filter _ (List.nodup_iff_pairwise_ne.1 List.nodup_range))
        intro a b hab e
        exact hab (by omega)
      · obtain ⟨i2, hi2, rfl⟩ := List.mem_map.1 hx
        obtain ⟨hi3, hl⟩ := List.mem_filter.1 hi2
        rw [List.mem_range] at hi3
        refine ⟨spFr D S k i2, (spW_mem D S m K _).2 ⟨k, i2, hk, hi3, rfl⟩, spFr_group (by omega), spFr_reel (by omega), (spBest L D S m K k i2 hK hm2 hk hi3).2 (by simpa using hl)⟩
      · rw [List.length_map]
        have := hun k
        omega
end Go.Proofs.Ytafididfgljfcaa
