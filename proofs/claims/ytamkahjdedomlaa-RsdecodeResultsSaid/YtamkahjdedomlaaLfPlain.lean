/-
  The shift register of the encoder. No program in sight.
-/
import Derived.Test.YtamkahjdedomlaaSynPlain
namespace Go.Proofs.Ytamkahjdedomlaa
set_option linter.unusedVariables false

def setMany (l : List UInt8) : Nat → List UInt8 → List UInt8
  | _, [] => l
  | o, x :: r => setMany (l.set o x) (o + 1) r
theorem setMany_len (m : List UInt8) : ∀ l o, (setMany l o m).length = l.length := by
  induction m with
  | nil => intro l o; rfl
  | cons x r ih => intro l o; simp only [setMany]; rw [ih, List.length_set]
theorem co_setMany (m : List UInt8) : ∀ (l : List UInt8) (o n : Nat), o + m.length ≤ l.length → co (setMany l o m) n = if o ≤ n ∧ n < o + m.length then co m (n - o) else co l n := by
  induction m with
  | nil => intro l o n _; simp only [setMany, List.length_nil]; rw [if_neg (by omega)]
  | cons x r ih =>
    intro l o n h
    rw [List.length_cons] at h ⊢
    simp only [setMany]
    rw [ih _ _ _ (by rw [List.length_set]; omega), co_set _ _ _ _ (by omega)]
    by_cases e : n = o
    · subst e
      rw [if_neg (by omega), if_pos rfl, if_pos (by omega), Nat.sub_self]; rfl
    · rw [if_neg e]
      by_cases c : o + 1 ≤ n ∧ n < o + 1 + r.length
      · rw [if_pos c, if_pos (by omega)]
        obtain ⟨k, rfl⟩ : ∃ k, n = o + 1 + k := ⟨n - (o + 1), by omega⟩
        rw [show o + 1 + k - (o + 1) = k by omega, show o + 1 + k - o = k + 1 by omega]; rfl
      · rw [if_neg c, if_neg (by omega)]
theorem co_drop (l : List UInt8) (m n : Nat) : co (l.drop m) n = co l (m + n) := by unfold co; rw [List.getElem?_drop]
/-- The register shifted by one, a zero behind. -/
def shl (st : List UInt8) : List UInt8 := (setMany st 0 (st.drop 1)).set (st.length - 1) 0
theorem shl_len (st : List UInt8) : (shl st).length = st.length := by unfold shl; rw [List.length_set, setMany_len]
theorem co_shl (st : List UInt8) (n : Nat) (h : 1 ≤ st.length) : co (shl st) n = co st (n + 1) := by
  unfold shl
  have hd : (st.drop 1).length = st.length - 1 := List.length_drop
  rw [co_set _ _ _ _ (by rw [setMany_len]; omega), co_setMany _ _ _ _ (by rw [hd]; omega), hd]
  by_cases e : n = st.length - 1
  · rw [if_pos e, co_out st (n + 1) (by omega)]; rfl
  · rw [if_neg e]
    by_cases c : 0 ≤ n ∧ n < 0 + (st.length - 1)
    · rw [if_pos c, co_drop]; congr 1; omega
    · rw [if_neg c, co_out st n (by omega), co_out st (n + 1) (by omega)]
def lfIn (s g : List UInt8) (f : UInt8) (p : Nat) : Nat → List UInt8
  | 0 => s
  | j + 1 => (lfIn s g f p j).set j ((lfIn s g f p j)[j]?.getD 0 ^^^ F.mulB f (g[p - 1 - j]?.getD 0))
theorem lfIn_len (s g : List UInt8) (f : UInt8) (p j : Nat) : (lfIn s g f p j).length = s.length := by
  induction j with
  | zero => rfl
  | succ j ih => simp only [lfIn, List.length_set]; exact ih
theorem co_lfIn (s g : List UInt8) (f : UInt8) (p j : Nat) (hj : j ≤ s.length) (n : Nat) : co (lfIn s g f p j) n = if n < j then co s n + F.mk f * co g (p - 1 - n) else co s n := by
  induction j generalizing n with
  | zero => rw [if_neg (by omega)]; rfl
  | succ j ih =>
    simp only [lfIn]
    rw [co_set _ _ _ _ (by rw [lfIn_len]; omega), ih (by omega)]
    by_cases e : n = j
    · subst e
      rw [if_pos rfl, if_pos (by omega)]
      have := ih (by omega) n
      rw [if_neg (by omega)] at this
      rw [← this]; rfl
    · rw [if_neg e]
      by_cases c : n < j
      · rw [if_pos c, if_pos (by omega)]
      · rw [if_neg c, if_neg (by omega)]
/-- One step of the register: the symbol d comes in. -/
def lfStep (st g : List UInt8) (d : UInt8) : List UInt8 := lfIn (shl st) g (d ^^^ (st[0]?.getD 0)) st.length st.length
theorem lfStep_len (st g : List UInt8) (d : UInt8) : (lfStep st g d).length = st.length := by unfold lfStep; rw [lfIn_len, shl_len]
theorem co_lfStep (st g : List UInt8) (d : UInt8) (n : Nat) (h : n < st.length) : co (lfStep st g d) n = co st (n + 1) + (F.mk d + co st 0) * co g (st.length - 1 - n) := by
  unfold lfStep
  rw [co_lfIn _ _ _ _ _ (by rw [shl_len]; exact Nat.le_refl _), if_pos h, co_shl _ _ (by omega)]; rfl
/-- The register behind the first k bytes. -/
def lfTo (l g : List UInt8) (p : Nat) : Nat → List UInt8
  | 0 => List.replicate p 0
  | k + 1 => lfStep (lfTo l g p k) g (l[k]?.getD 0)
theorem lfTo_len (l g : List UInt8) (p k : Nat) : (lfTo l g p k).length = p := by
  induction k with
  | zero => simp [lfTo]
  | succ k ih => simp only [lfTo]; rw [lfStep_len]; exact ih
theorem co_lfTo (l g : List UInt8) (p k n : Nat) (h : n < p) : co (lfTo l g p (k + 1)) n = co (lfTo l g p k) (n + 1) + (co l k + co (lfTo l g p k) 0) * co g (p - 1 - n) := by
  simp only [lfTo]
  rw [co_lfStep _ _ _ _ (by rw [lfTo_len]; exact h), lfTo_len]; rfl
/-- The code word of l. -/
def encB (l : List UInt8) (p : Nat) : List UInt8 := l ++ lfTo l (genB p) p l.length
theorem encB_len (l : List UInt8) (p : Nat) : (encB l p).length = l.length + p := by unfold encB; rw [List.length_append, lfTo_len]
end Go.Proofs.Ytamkahjdedomlaa
