/-
  Polynomials as lists of bytes, lowest degree first: what the program's loops compute. No program in sight.
-/
import Derived.Test.YtamkahjdedomlaaSum
namespace Go.Proofs.Ytamkahjdedomlaa
set_option linter.unusedVariables false

def trimN (l : List UInt8) : Nat → Nat
  | 0 => 0
  | n + 1 => if l[n]?.getD 0 = 0 then trimN l n else n + 1
/-- p without the zeros at its end. -/
def trim (l : List UInt8) : List UInt8 := l.take (trimN l l.length)
theorem trimN_le (l : List UInt8) (n : Nat) : trimN l n ≤ n := by
  induction n with
  | zero => exact Nat.le_refl _
  | succ n ih => simp only [trimN]; split <;> omega

/-- Adding p[i] * q, shifted by i, to a row, term by term: the first k terms. -/
def mulIn (p q : List UInt8) (i : Nat) (out : List UInt8) : Nat → List UInt8
  | 0 => out
  | k + 1 => (mulIn p q i out k).set (i + k) ((mulIn p q i out k)[i + k]?.getD 0 ^^^ F.mulB (p[i]?.getD 0) (q[k]?.getD 0))
def mulOut (p q : List UInt8) : Nat → List UInt8
  | 0 => List.replicate (p.length + q.length) 0
  | i + 1 => mulIn p q i (mulOut p q i) q.length
def pmul (p q : List UInt8) : List UInt8 := trim (mulOut p q p.length)
theorem mulIn_len (p q : List UInt8) (i : Nat) (out : List UInt8) (k : Nat) : (mulIn p q i out k).length = out.length := by
  induction k with
  | zero => rfl
  | succ k ih => simp only [mulIn, List.length_set]; exact ih
theorem mulOut_len (p q : List UInt8) (i : Nat) : (mulOut p q i).length = p.length + q.length := by
  induction i with
  | zero => simp [mulOut]
  | succ i ih => simp only [mulOut, mulIn_len]; exact ih


/-! ### Coefficients. -/
theorem trimN_spec (l : List UInt8) (n : Nat) (hn : n ≤ l.length) (h : ∀ i, n ≤ i → co l i = 0) : (∀ i, trimN l n ≤ i → co l i = 0) ∧ (trimN l n = 0 ∨ co l (trimN l n - 1) ≠ 0) := by
  induction n with
  | zero => exact ⟨h, Or.inl rfl⟩
  | succ n ih =>
    simp only [trimN]
    by_cases e : l[n]?.getD 0 = 0
    · rw [if_pos e]
      refine ih (by omega) fun i hi => ?_
      by_cases e2 : i = n
      · subst e2; exact e
      · exact h i (by omega)
    · rw [if_neg e]; exact ⟨h, Or.inr e⟩
theorem trim_len (l : List UInt8) : (trim l).length = trimN l l.length := by
  unfold trim; rw [List.length_take]; have := trimN_le l l.length; omega
theorem co_trim (l : List UInt8) (n : Nat) : co (trim l) n = co l n := by
  unfold trim; rw [co_take]
  split
  · rfl
  · rename_i h; exact ((trimN_spec l _ (Nat.le_refl _) (fun i hi => co_out l i hi)).1 n (by omega)).symm
/-- The length of a polynomial without zeros at its end. -/
theorem trim_len_of (l : List UInt8) (n : Nat) (h : ∀ i, n ≤ i → co l i = 0) (h' : n = 0 ∨ co l (n - 1) ≠ 0) : (trim l).length = n := by
  rw [trim_len]
  obtain ⟨h1, h2⟩ := trimN_spec l _ (Nat.le_refl _) (fun i hi => co_out l i hi)
  by_cases a : trimN l l.length < n
  · rcases h' with e | e
    · omega
    · exact absurd (h1 (n - 1) (by omega)) e
  · by_cases b : n < trimN l l.length
    · rcases h2 with e | e
      · omega
      · exact absurd (h _ (by omega)) e
    · omega
theorem co_mulIn (p q : List UInt8) (i : Nat) (out : List UInt8) (k : Nat) (h : i + k ≤ out.length) (n : Nat) :
    co (mulIn p q i out k) n = co out n + (if i ≤ n ∧ n < i + k then co p i * co q (n - i) else 0) := by
  induction k with
  | zero => rw [if_neg (by omega), F.add_zero]; rfl
  | succ k ih =>
    have ih' := ih (by omega)
    simp only [mulIn]
    rw [co_set _ _ _ _ (by rw [mulIn_len]; omega)]
    by_cases e : n = i + k
    · subst e
      rw [if_pos rfl, if_pos (by omega)]
      rw [if_neg (by omega), F.add_zero] at ih'
      show co (mulIn p q i out k) (i + k) + co p i * co q k = _
      rw [ih', show i + k - i = k by omega]
    · rw [if_neg e, ih']
      by_cases c : i ≤ n ∧ n < i + k
      · rw [if_pos c, if_pos (by omega)]
      · rw [if_neg c, if_neg (by omega)]
theorem co_mulOut (p q : List UInt8) (i : Nat) (h : i ≤ p.length) (n : Nat) : co (mulOut p q i) n = F.sumN i (fun j => if j ≤ n then co p j * co q (n - j) else 0) := by
  induction i with
  | zero => exact co_replicate _ _
  | succ i ih =>
    simp only [mulOut, F.sumN]
    rw [co_mulIn _ _ _ _ _ (by rw [mulOut_len]; omega), ih (by omega)]
    congr 1
    by_cases c : i ≤ n
    · rw [if_pos c]
      by_cases d : n < i + q.length
      · rw [if_pos ⟨c, d⟩]
      · rw [if_neg (by omega), co_out q _ (by omega), F.mul_zero]
    · rw [if_neg c, if_neg (by omega)]
theorem co_pmul (p q : List UInt8) (n : Nat) : co (pmul p q) n = conv (co p) (co q) n := by
  unfold pmul conv
  rw [co_trim, co_mulOut _ _ _ (Nat.le_refl _)]
  have h1 : F.sumN (p.length + (n + 1)) (fun j => if j ≤ n then co p j * co q (n - j) else 0) = F.sumN p.length (fun j => if j ≤ n then co p j * co q (n - j) else 0) :=
    F.sumN_more (by omega) fun i a _ => by rw [co_out p i a, F.zero_mul]; split <;> rfl
  have h2 : F.sumN (p.length + (n + 1)) (fun j => if j ≤ n then co p j * co q (n - j) else 0) = F.sumN (n + 1) (fun j => if j ≤ n then co p j * co q (n - j) else 0) :=
    F.sumN_more (by omega) fun i a _ => by rw [if_neg (by omega)]
  rw [← h1, h2]
  exact F.sumN_congr fun i hi => if_pos (by omega)

/-! ### The generator polynomial. -/
def genB : Nat → List UInt8
  | 0 => [1]
  | i + 1 => pmul (genB i) [(F.exp i).byte, 1]
theorem co_two (e : UInt8) (n : Nat) : co [e, 1] n = if n = 0 then F.mk e else if n = 1 then 1 else 0 := by
  match n with
  | 0 => rfl
  | 1 => rfl
  | n + 2 => exact co_out _ _ (by simp)
theorem conv_two (g : Nat → F) (e : UInt8) (n : Nat) : conv g (co [e, 1]) n = g n * F.mk e + (if n = 0 then 0 else g (n - 1)) := by
  unfold conv
  cases n with
  | zero => simp only [F.sumN, co_two, Nat.sub_self, if_true]; rw [F.zero_add, F.add_zero]
  | succ n =>
    simp only [F.sumN]
    rw [F.sumN_zero (fun i hi => by rw [co_two, if_neg (by omega), if_neg (by omega), F.mul_zero]), F.zero_add]
    rw [co_two, if_neg (by omega), if_pos (by omega), co_two, if_pos (by omega), F.mul_one, if_neg (by omega), F.add_comm]; rfl
theorem co_gen_succ (i n : Nat) : co (genB (i + 1)) n = co (genB i) n * F.exp i + (if n = 0 then 0 else co (genB i) (n - 1)) := by
  show co (pmul _ _) n = _
  rw [co_pmul, conv_two]; rfl
theorem gen_top (i : Nat) : (∀ n, i < n → co (genB i) n = 0) ∧ co (genB i) i = 1 := by
  induction i with
  | zero => exact ⟨fun n hn => co_out _ _ (by simp [genB]; omega), rfl⟩
  | succ i ih =>
    refine ⟨fun n hn => ?_, ?_⟩
    · rw [co_gen_succ, ih.1 n (by omega), F.zero_mul, F.zero_add, if_neg (by omega), ih.1 _ (by omega)]
    · rw [co_gen_succ, ih.1 (i + 1) (by omega), F.zero_mul, F.zero_add, if_neg (by omega)]; exact ih.2
theorem gen_len (i : Nat) : (genB i).length = i + 1 := by
  cases i with
  | zero => rfl
  | succ i =>
    show (pmul _ _).length = _
    refine trim_len_of _ _ (fun n hn => ?_) (Or.inr ?_)
    · rw [← co_trim]; exact (gen_top (i + 1)).1 n (by omega)
    · rw [← co_trim]
      show co (genB (i + 1)) (i + 1 + 1 - 1) ≠ 0
      rw [show i + 1 + 1 - 1 = i + 1 by omega, (gen_top (i + 1)).2]; exact F.one_ne_zero
end Go.Proofs.Ytamkahjdedomlaa
