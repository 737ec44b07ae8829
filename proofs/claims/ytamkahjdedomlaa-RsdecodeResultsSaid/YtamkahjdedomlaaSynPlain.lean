/-
  Syndromes as values of a word's polynomial, and the row that the program's loops fill. No program in sight.
-/
import Derived.Test.YtamkahjdedomlaaPolyDef
import Derived.Test.YtamkahjdedomlaaGfB
namespace Go.Proofs.Ytamkahjdedomlaa
set_option linter.unusedVariables false

/-- The value of the polynomial of the first k bytes (the first byte's degree is highest). -/
def hornTo (l : List UInt8) (x : UInt8) : Nat → UInt8
  | 0 => 0
  | k + 1 => F.mulB (hornTo l x k) x ^^^ (l[k]?.getD 0)
def horn (l : List UInt8) (x : UInt8) : UInt8 := hornTo l x l.length
/-- The row of p syndromes of which the first i are reckoned. -/
def synTo (l : List UInt8) (p : Nat) : Nat → List UInt8
  | 0 => List.replicate p 0
  | i + 1 => (synTo l p i).set i (horn l (F.expB i))
def synB (l : List UInt8) (p : Nat) : List UInt8 := synTo l p p
theorem synTo_len (l : List UInt8) (p i : Nat) : (synTo l p i).length = p := by
  induction i with
  | zero => simp [synTo]
  | succ i ih => simp only [synTo, List.length_set]; exact ih
theorem synB_len (l : List UInt8) (p : Nat) : (synB l p).length = p := synTo_len l p p
theorem co_synTo (l : List UInt8) (p i : Nat) (hi : i ≤ p) (n : Nat) : co (synTo l p i) n = if n < i then F.mk (horn l (F.expB n)) else 0 := by
  induction i with
  | zero => exact co_replicate _ _
  | succ i ih =>
    simp only [synTo]
    rw [co_set _ _ _ _ (by rw [synTo_len]; omega), ih (by omega)]
    by_cases e : n = i
    · subst e; rw [if_pos rfl, if_pos (by omega)]
    · rw [if_neg e]
      by_cases c : n < i
      · rw [if_pos c, if_pos (by omega)]
      · rw [if_neg c, if_neg (by omega)]
theorem co_synB (l : List UInt8) (p n : Nat) (hn : n < p) : co (synB l p) n = F.mk (horn l (F.expB n)) := by
  unfold synB; rw [co_synTo l p p (Nat.le_refl _), if_pos hn]
theorem syn_start (l : List UInt8) (p i : Nat) (hi : i < p) : (synTo l p i).set i 0 = synTo l p i := by
  refine co_ext (by simp) fun n hn => ?_
  rw [co_set _ _ _ _ (by rw [synTo_len]; exact hi)]
  split
  · rename_i e; subst e; rw [co_synTo l p n (by omega), if_neg (by omega)]; rfl
  · rfl
theorem set_set (l : List UInt8) (i : Nat) (a b : UInt8) : (l.set i a).set i b = l.set i b := by simp
/-- Whether all syndromes are zero. -/
def isCw (l : List UInt8) (p : Nat) : Bool := decide (1 ≤ p ∧ p ≤ 64 ∧ p ≤ l.length ∧ l.length ≤ 255) && (List.range p).all fun i => horn l (F.expB i) == 0
theorem synB_at (l : List UInt8) (p k : Nat) (hk : k < p) : (synB l p)[k]?.getD 0 = horn l (F.expB k) := co_synB l p k hk
theorem isCw_bad (l : List UInt8) (p : Nat) (h : ¬ (1 ≤ p ∧ p ≤ 64 ∧ p ≤ l.length ∧ l.length ≤ 255)) : isCw l p = false := by unfold isCw; rw [decide_eq_false h]; rfl
theorem isCw_iff (l : List UInt8) (p : Nat) : isCw l p = true ↔ (1 ≤ p ∧ p ≤ 64 ∧ p ≤ l.length ∧ l.length ≤ 255) ∧ ∀ i, i < p → horn l (F.expB i) = 0 := by
  unfold isCw
  rw [Bool.and_eq_true, decide_eq_true_iff, List.all_eq_true]
  simp only [List.mem_range, beq_iff_eq]
theorem isCw_no (l : List UInt8) (p k : Nat) (hk : k < p) (h : horn l (F.expB k) ≠ 0) : isCw l p = false := by
  rw [Bool.eq_false_iff]; intro e; exact h (((isCw_iff l p).1 e).2 k hk)
end Go.Proofs.Ytamkahjdedomlaa
