/-
  Finite sums in the field of 256 elements, polynomials as sequences of coefficients, and the one lemma on Vandermonde systems that Reed-Solomon codes rest on. No program in sight.
-/
import Derived.Test.YtamkahjdedomlaaGf
namespace Go.Proofs.Ytamkahjdedomlaa
namespace F

def sumN : Nat → (Nat → F) → F
  | 0, _ => 0
  | n + 1, f => sumN n f + f n
theorem sumN_congr {n : Nat} {f g : Nat → F} (h : ∀ i, i < n → f i = g i) : sumN n f = sumN n g := by
  induction n with
  | zero => rfl
  | succ n ih => simp only [sumN]; rw [ih (fun i hi => h i (by omega)), h n (by omega)]
theorem sumN_zero {n : Nat} {f : Nat → F} (h : ∀ i, i < n → f i = 0) : sumN n f = 0 := by
  induction n with
  | zero => rfl
  | succ n ih => simp only [sumN]; rw [ih (fun i hi => h i (by omega)), h n (by omega), F.add_zero]
theorem sumN_add (n : Nat) (f g : Nat → F) : sumN n (fun i => f i + g i) = sumN n f + sumN n g := by
  induction n with
  | zero => exact (F.add_zero 0).symm
  | succ n ih => simp only [sumN]; rw [ih]; ac_rfl
theorem sumN_mul (n : Nat) (a : F) (f : Nat → F) : sumN n (fun i => a * f i) = a * sumN n f := by
  induction n with
  | zero => exact (F.mul_zero a).symm
  | succ n ih => simp only [sumN]; rw [ih, F.mul_add]
theorem sumN_mul_right (n : Nat) (a : F) (f : Nat → F) : sumN n (fun i => f i * a) = sumN n f * a := by
  rw [F.mul_comm, ← sumN_mul]; exact sumN_congr fun i _ => F.mul_comm _ _
theorem sumN_single {n : Nat} {f : Nat → F} (k : Nat) (hk : k < n) (h : ∀ i, i < n → i ≠ k → f i = 0) : sumN n f = f k := by
  induction n with
  | zero => omega
  | succ n ih =>
    simp only [sumN]
    by_cases e : k = n
    · subst e; rw [sumN_zero (fun i hi => h i (by omega) (by omega)), F.zero_add]
    · rw [ih (by omega) (fun i hi hne => h i (by omega) hne), h n (by omega) (by omega), F.add_zero]
theorem sumN_swap (m n : Nat) (f : Nat → Nat → F) : sumN m (fun i => sumN n (fun j => f i j)) = sumN n (fun j => sumN m (fun i => f i j)) := by
  induction m with
  | zero => exact (sumN_zero (fun _ _ => rfl)).symm
  | succ m ih => simp only [sumN]; rw [ih, ← sumN_add]
theorem sumN_left (n : Nat) (f : Nat → F) : sumN (n + 1) f = f 0 + sumN n (fun i => f (i + 1)) := by
  induction n with
  | zero => simp only [sumN]; rw [F.add_comm]
  | succ n ih =>
    have : sumN (n + 1 + 1) f = sumN (n + 1) f + f (n + 1) := rfl
    rw [this, ih, F.add_assoc]; rfl
theorem sumN_more {n m : Nat} {f : Nat → F} (hnm : n ≤ m) (h : ∀ i, n ≤ i → i < m → f i = 0) : sumN m f = sumN n f := by
  induction m with
  | zero => rw [show n = 0 by omega]
  | succ m ih =>
    by_cases e : n = m + 1
    · rw [e]
    · simp only [sumN]; rw [ih (by omega) (fun i a b => h i a (by omega)), h m (by omega) (by omega), F.add_zero]
theorem sumN_split (m n : Nat) (f : Nat → F) : sumN (m + n) f = sumN m f + sumN n (fun i => f (m + i)) := by
  induction n with
  | zero => exact (F.add_zero _).symm
  | succ n ih => show sumN (m + n) f + f (m + n) = _; rw [ih, F.add_assoc]; rfl
theorem sumN_rev (n : Nat) (f : Nat → F) : sumN n f = sumN n (fun i => f (n - 1 - i)) := by
  induction n with
  | zero => rfl
  | succ n ih =>
    rw [sumN_left]
    simp only [sumN]
    rw [F.add_comm, show n + 1 - 1 - n = 0 by omega]
    congr 1
    rw [sumN_rev_aux n f]
where
  sumN_rev_aux (n : Nat) (f : Nat → F) : sumN n (fun i => f (i + 1)) = sumN n (fun i => f (n + 1 - 1 - i)) := by
    induction n generalizing f with
    | zero => rfl
    | succ n ih =>
      rw [sumN_left]
      simp only [sumN]
      rw [ih (fun i => f (i + 1)), F.add_comm]
      congr 1
      · exact sumN_congr fun i hi => by rw [show n + 1 - 1 - i + 1 = n + 1 + 1 - 1 - i by omega]
      · rw [show n + 1 + 1 - 1 - n = 0 + 1 by omega]

/-- The lemma: weights on points that are distinct where they matter, whose first power sums vanish, are zero. L lists the places where a weight may be other than zero. -/
theorem vander (n : Nat) (X : Nat → F) (L : List Nat) (hin : ∀ i, i ∈ L → i < n) (hX : ∀ i, i ∈ L → ∀ j, j ∈ L → X i = X j → i = j) :
    ∀ w : Nat → F, (∀ i, i < n → i ∉ L → w i = 0) → L.Nodup → (∀ j, j < L.length → sumN n (fun i => w i * pow (X i) j) = 0) → ∀ i, i < n → w i = 0 := by
  induction L with
  | nil => intro w h _ _ i hi; exact h i hi (by simp)
  | cons k L ih =>
    intro w hw hnd hs
    have hkn : k < n := hin k (by simp)
    rw [List.nodup_cons] at hnd
    have hrest := ih (fun i hi => hin i (List.mem_cons_of_mem _ hi)) (fun i hi j hj => hX i (List.mem_cons_of_mem _ hi) j (List.mem_cons_of_mem _ hj))
      (fun i => w i * (X i + X k)) ?_ hnd.2 ?_
    · have h0 : ∀ i, i < n → i ≠ k → w i = 0 := by
        intro i hi hne
        by_cases hm : i ∈ L
        · have h1 := hrest i hi
          rcases mul_eq_zero.1 h1 with h2 | h2
          · exact h2
          · exact absurd (hX i (List.mem_cons_of_mem _ hm) k (by simp) (add_eq_zero.1 h2)) hne
        · exact hw i hi (by simp [hne, hm])
      have h1 := hs 0 (by simp)
      rw [sumN_single k hkn (fun i hi hne => by rw [h0 i hi hne, F.zero_mul])] at h1
      have h2 : w k = 0 := by
        have : w k * 1 = 0 := h1
        rwa [F.mul_one] at this
      intro i hi
      by_cases e : i = k
      · subst e; exact h2
      · exact h0 i hi e
    · intro i hi hm
      by_cases e : i = k
      · subst e; show w i * (X i + X i) = 0; rw [add_self, F.mul_zero]
      · show w i * (X i + X k) = 0
        rw [hw i hi (by simp [e, hm]), F.zero_mul]
    · intro j hj
      have h1 := hs (j + 1) (by simp; omega)
      have h2 := hs j (by simp; omega)
      have : sumN n (fun i => w i * (X i + X k) * pow (X i) j) = sumN n (fun i => w i * pow (X i) (j + 1)) + X k * sumN n (fun i => w i * pow (X i) j) := by
        rw [← sumN_mul, ← sumN_add]
        refine sumN_congr fun i _ => ?_
        show w i * (X i + X k) * pow (X i) j = w i * (pow (X i) j * X i) + X k * (w i * pow (X i) j)
        rw [F.mul_add, F.add_mul]
        congr 1 <;> ac_rfl
      rw [this, h1, h2, F.mul_zero, F.add_zero]
end F

/-- The coefficient of degree n. -/
def co (l : List UInt8) (n : Nat) : F := F.mk (l[n]?.getD 0)
theorem co_out (l : List UInt8) (n : Nat) (h : l.length ≤ n) : co l n = 0 := by unfold co; rw [List.getElem?_eq_none h]; rfl
theorem co_ext {a b : List UInt8} (hl : a.length = b.length) (h : ∀ n, n < a.length → co a n = co b n) : a = b := by
  apply List.ext_getElem?
  intro i
  by_cases hi : i < a.length
  · have := h i hi
    unfold co at this
    rw [List.getElem?_eq_getElem hi, List.getElem?_eq_getElem (by omega : i < b.length)] at this ⊢
    have h2 : a[i] = b[i] := this
    rw [h2]
  · rw [List.getElem?_eq_none (by omega), List.getElem?_eq_none (by omega)]
theorem co_set (l : List UInt8) (k : Nat) (x : UInt8) (n : Nat) (hk : k < l.length) : co (l.set k x) n = if n = k then F.mk x else co l n := by
  unfold co
  split
  · rename_i e; subst e; rw [List.getElem?_set_self hk]; rfl
  · rename_i e; rw [List.getElem?_set_ne (fun h => e h.symm)]
theorem co_append_left (a b : List UInt8) (n : Nat) (h : n < a.length) : co (a ++ b) n = co a n := by unfold co; rw [List.getElem?_append_left h]
theorem co_append_right (a b : List UInt8) (n : Nat) : co (a ++ b) (a.length + n) = co b n := by unfold co; rw [List.getElem?_append_right (by omega)]; congr 3; omega
theorem co_replicate (m n : Nat) : co (List.replicate m 0) n = 0 := by
  unfold co
  by_cases h : n < m
  · rw [List.getElem?_replicate, if_pos h]; rfl
  · rw [List.getElem?_eq_none (by simp; omega)]; rfl
theorem co_take (l : List UInt8) (m n : Nat) : co (l.take m) n = if n < m then co l n else 0 := by
  unfold co
  rw [List.getElem?_take]; split <;> rfl

/-- The product of two sequences of coefficients. -/
def conv (p q : Nat → F) (n : Nat) : F := F.sumN (n + 1) fun j => p j * q (n - j)
end Go.Proofs.Ytamkahjdedomlaa
