/-
  Plain facts on marks in strings that are put together.
-/
import Derived.Test.YtcklenkpalfjgaaSmPlain2
namespace Go.Proofs.Ytcklenkpalfjgaa.Sm

theorem data_size (s : ByteArray) : s.data.size = s.size := rfl
theorem cellAt_ofNat (s : ByteArray) (k : Nat) : cellAt s (k : Int) = ((s.data[k]?.getD 0).toNat : Int) := by
  unfold cellAt; rw [if_pos (by omega)]; rfl
theorem append_data (x y : ByteArray) : (x ++ y).data = x.data ++ y.data := by simp
theorem append_size (x y : ByteArray) : (x ++ y).size = x.size + y.size := by simp
theorem cellAt_left (x y : ByteArray) (k : Nat) (h : k < x.size) : cellAt (x ++ y) (k : Int) = cellAt x k := by
  rw [cellAt_ofNat, cellAt_ofNat, append_data, Array.getElem?_append_left (by rw [data_size]; exact h)]
theorem cellAt_right (x y : ByteArray) (k : Nat) : cellAt (x ++ y) ((x.size + k : Nat) : Int) = cellAt y k := by
  rw [cellAt_ofNat, cellAt_ofNat, append_data, Array.getElem?_append_right (by rw [data_size]; omega), data_size]
  congr 4; omega
theorem cellAt_none (s : ByteArray) (k : Nat) (h : s.size ≤ k) : cellAt s (k : Int) = 0 := cellAt_out s _ (by omega)

theorem offTo_congr (s t : ByteArray) (a b : Nat) (n : Nat) (h : ∀ k, k < n → cellAt s ((a + k : Nat) : Int) = cellAt t ((b + k : Nat) : Int)) : offTo s a n = offTo t b n := by
  induction n with
  | zero => rfl
  | succ n ih =>
    simp only [offTo]
    rw [ih (fun k hk => h k (by omega)), show (a : Int) + (n : Int) = ((a + n : Nat) : Int) by omega, show (b : Int) + (n : Int) = ((b + n : Nat) : Int) by omega, h n (by omega)]
theorem dist_congr (s t : ByteArray) (a b : Nat) (h : ∀ k, k < 16 → cellAt s ((a + k : Nat) : Int) = cellAt t ((b + k : Nat) : Int)) : dist s a = dist t b := by
  rw [dist_off, dist_off]; exact offTo_congr s t a b 16 h
theorem dist_left (x y : ByteArray) (k : Nat) (h : k + 16 ≤ x.size) : dist (x ++ y) k = dist x k :=
  dist_congr _ _ _ _ fun i hi => cellAt_left x y _ (by omega)
theorem dist_right (x y : ByteArray) (k : Nat) : dist (x ++ y) ((x.size + k : Nat) : Int) = dist y k :=
  dist_congr _ _ _ _ fun i hi => by rw [Nat.add_assoc]; exact cellAt_right x y _
theorem dist_mid (b s a : ByteArray) (k : Nat) (h : k + 16 ≤ s.size) : dist (b ++ s ++ a) ((b.size + k : Nat) : Int) = dist s k := by
  rw [dist_left _ _ _ (by rw [append_size]; omega)]; exact dist_right b s k

theorem found_right (b s : ByteArray) (k i : Nat) (h : Found s k i) : Found (b ++ s) (b.size + k) (b.size + i) := by
  obtain ⟨h1, h2, h3, h4⟩ := h
  refine ⟨by omega, by rw [append_size]; omega, by rw [dist_right]; exact h3, fun j a c => ?_⟩
  obtain ⟨m, rfl⟩ : ∃ m, j = b.size + m := ⟨j - b.size, by omega⟩
  rw [dist_right]; exact h4 m (by omega) (by omega)
theorem nowhere_right (b s : ByteArray) (k : Nat) (h : Nowhere s k) : Nowhere (b ++ s) (b.size + k) := by
  intro j a c
  obtain ⟨m, rfl⟩ : ∃ m, j = b.size + m := ⟨j - b.size, by omega⟩
  rw [dist_right]; exact h m (by omega) (by rw [append_size] at c; omega)
theorem found_left (s m : ByteArray) (k i : Nat) (h : Found s k i) : Found (s ++ m) k i := by
  obtain ⟨h1, h2, h3, h4⟩ := h
  refine ⟨h1, by rw [append_size]; omega, by rw [dist_left _ _ _ h2]; exact h3, fun j a c => ?_⟩
  rw [dist_left _ _ _ (by omega)]; exact h4 j a c
theorem found_beyond (s m : ByteArray) (k i : Nat) (h : Nowhere s k) (hf : Found (s ++ m) k i) : s.size < i + 16 := by
  obtain ⟨h1, h2, h3, h4⟩ := hf
  by_cases a : i + 16 ≤ s.size
  · rw [dist_left _ _ _ a] at h3; exact absurd h3 (h i h1 a)
  · omega
end Go.Proofs.Ytcklenkpalfjgaa.Sm
