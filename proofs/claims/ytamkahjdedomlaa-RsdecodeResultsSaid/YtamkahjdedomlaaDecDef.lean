/-
  What rsdecode.Decode computes, as a function of lists. No program in sight.
-/
import Derived.Test.YtamkahjdedomlaaDk3
import Derived.Test.YtamkahjdedomlaaBm
import Derived.Test.YtamkahjdedomlaaLost
namespace Go.Proofs.Ytamkahjdedomlaa
set_option linter.unusedVariables false

/-- The erasures' product. -/
def erTo (n : Nat) (lost : List Int) : Nat → List UInt8
  | 0 => [1]
  | k + 1 => pmul (erTo n lost k) [1, F.expB (n - 1 - (lost[k]?.getD 0).toNat)]
theorem co_lin (e : UInt8) (n : Nat) : co [1, e] n = if n = 0 then 1 else if n = 1 then F.mk e else 0 := by
  match n with
  | 0 => rfl
  | 1 => rfl
  | n + 2 => exact co_out _ _ (by simp)
theorem conv_lin (g : Nat → F) (e : UInt8) (n : Nat) : conv g (co [1, e]) n = g n + (if n = 0 then 0 else g (n - 1) * F.mk e) := by
  unfold conv
  cases n with
  | zero => simp only [F.sumN, co_lin, Nat.sub_self, if_true]; rw [F.zero_add, F.add_zero, F.mul_one]
  | succ n =>
    simp only [F.sumN]
    rw [F.sumN_zero (fun i hi => by rw [co_lin, if_neg (by omega), if_neg (by omega), F.mul_zero]), F.zero_add]
    rw [co_lin, if_neg (by omega), if_pos (by omega), co_lin, if_pos (by omega), F.mul_one, if_neg (by omega), F.add_comm]; rfl
theorem co_er_succ (n : Nat) (lost : List Int) (k m : Nat) : co (erTo n lost (k + 1)) m = co (erTo n lost k) m + (if m = 0 then 0 else co (erTo n lost k) (m - 1) * F.exp (n - 1 - (lost[k]?.getD 0).toNat)) := by
  show co (pmul _ _) m = _
  rw [co_pmul, conv_lin]; rfl
theorem er_top (n : Nat) (lost : List Int) (k : Nat) : (∀ m, k < m → co (erTo n lost k) m = 0) ∧ co (erTo n lost k) k ≠ 0 ∧ co (erTo n lost k) 0 = 1 := by
  induction k with
  | zero => exact ⟨fun m hm => co_out _ _ (by simp [erTo]; omega), F.one_ne_zero, rfl⟩
  | succ k ih =>
    refine ⟨fun m hm => ?_, ?_, ?_⟩
    · rw [co_er_succ, ih.1 m (by omega), F.zero_add, if_neg (by omega), ih.1 _ (by omega), F.zero_mul]
    · rw [co_er_succ, ih.1 (k + 1) (by omega), F.zero_add, if_neg (by omega)]; exact F.mul_ne_zero ih.2.1 (F.exp_ne_zero _)
    · rw [co_er_succ, if_pos rfl, F.add_zero]; exact ih.2.2
theorem er_len (n : Nat) (lost : List Int) (k : Nat) : (erTo n lost k).length = k + 1 := by
  cases k with
  | zero => rfl
  | succ k =>
    show (pmul _ _).length = _
    refine trim_len_of _ _ (fun m hm => ?_) (Or.inr ?_)
    · rw [← co_trim]; exact (er_top n lost (k + 1)).1 m (by omega)
    · rw [← co_trim]
      show co (erTo n lost (k + 1)) (k + 1 + 1 - 1) ≠ 0
      exact (er_top n lost (k + 1)).2.1

/-- The inverse of the place i's element. -/
def xAt (n i : Nat) : UInt8 := F.expB (F.red (-((n : Int) - 1 - i)))
def forney (om sl : List UInt8) (n i : Nat) : UInt8 := F.divB (F.mulB (F.expB (n - 1 - i)) (evB om (xAt n i))) (evB sl (xAt n i))
/-- The word and the number of roots behind the first places. -/
def decTo (l om sl word : List UInt8) (n : Nat) : Nat → Option (List UInt8 × Nat)
  | 0 => some (word, 0)
  | i + 1 => match decTo l om sl word n i with
    | none => none
    | some (o, r) => if evB l (xAt n i) = 0 then (if evB sl (xAt n i) = 0 then none else some (o.set i (o[i]?.getD 0 ^^^ forney om sl n i), r + 1)) else some (o, r)
theorem decTo_skip {l om sl word o : List UInt8} {n i r : Nat} (h : decTo l om sl word n i = some (o, r)) (h1 : evB l (xAt n i) ≠ 0) : decTo l om sl word n (i + 1) = some (o, r) := by
  simp only [decTo, h]; rw [if_neg h1]
theorem decTo_hit {l om sl word o : List UInt8} {n i r : Nat} (h : decTo l om sl word n i = some (o, r)) (h1 : evB l (xAt n i) = 0) (h2 : evB sl (xAt n i) ≠ 0) : decTo l om sl word n (i + 1) = some (o.set i (o[i]?.getD 0 ^^^ forney om sl n i), r + 1) := by
  simp only [decTo, h]; rw [if_pos h1, if_neg h2]
theorem decTo_fail {l om sl word o : List UInt8} {n i r : Nat} (h : decTo l om sl word n i = some (o, r)) (h1 : evB l (xAt n i) = 0) (h2 : evB sl (xAt n i) = 0) : decTo l om sl word n (i + 1) = none := by
  simp only [decTo, h]; rw [if_pos h1, if_pos h2]
theorem decTo_none {l om sl word : List UInt8} {n i : Nat} (h : decTo l om sl word n i = none) (j : Nat) (hj : i ≤ j) : decTo l om sl word n j = none := by
  induction j with
  | zero => rw [show 0 = i by omega]; exact h
  | succ j ih =>
    by_cases e : i = j + 1
    · rw [← e]; exact h
    · simp only [decTo, ih (by omega)]
theorem decTo_len {l om sl word o : List UInt8} {n i r : Nat} (h : decTo l om sl word n i = some (o, r)) : o.length = word.length ∧ r ≤ i := by
  induction i generalizing o r with
  | zero => simp only [decTo, Option.some.injEq, Prod.mk.injEq] at h; rw [← h.1, ← h.2]; exact ⟨rfl, Nat.le_refl _⟩
  | succ i ih =>
    cases hc : decTo l om sl word n i with
    | none => simp only [decTo, hc] at h; cases h
    | some x =>
      obtain ⟨o', r'⟩ := x
      obtain ⟨i1, i2⟩ := ih hc
      by_cases h1 : evB l (xAt n i) = 0
      · by_cases h2 : evB sl (xAt n i) = 0
        · rw [decTo_fail hc h1 h2] at h; cases h
        · rw [decTo_hit hc h1 h2] at h
          simp only [Option.some.injEq, Prod.mk.injEq] at h
          rw [← h.1, ← h.2, List.length_set]; exact ⟨i1, by omega⟩
      · rw [decTo_skip hc h1] at h
        simp only [Option.some.injEq, Prod.mk.injEq] at h
        rw [← h.1, ← h.2]; exact ⟨i1, by omega⟩

/-- How many of the first k places stand outside the list. -/
def wrongTo (ds : List Nat) (lost : List Int) : Nat → Nat
  | 0 => 0
  | k + 1 => if lost.contains ((ds[k]?.getD 0 : Nat) : Int) = true then wrongTo ds lost k else wrongTo ds lost k + 1
theorem wrongTo_le (ds : List Nat) (lost : List Int) (k : Nat) : wrongTo ds lost k ≤ k := by
  induction k with
  | zero => exact Nat.le_refl _
  | succ k ih => simp only [wrongTo]; split <;> omega

def decMain (word : List UInt8) (p : Nat) (lost : List Int) : List UInt8 × Nat × Nat :=
  let l := locB (synB word p) (erTo word.length lost lost.length)
  match decTo l ((pmul (synB word p) l).take p) (pderiv l) word word.length word.length with
  | none => ([], 0, 11)
  | some (o, r) => if r + 1 = l.length ∧ isCw o p = true ∧ radB p (wrongTo (diffs word o) lost (diffs word o).length) lost.length = true then (o, (diffs word o).length, 0) else ([], 0, 11)
def inR (n : Nat) (x : Int) : Prop := 0 ≤ x ∧ x < n
def decOk (word : List UInt8) (p : Nat) (lost : List Int) : List UInt8 × Nat × Nat :=
  if lost.all (fun x => decide (0 ≤ x ∧ x < (word.length : Int))) = true then (if p < lost.length then ([], 0, 11) else decMain word p lost) else ([], 0, 1)
def goodP (word : List UInt8) (p : Int) : Prop := 1 ≤ p ∧ p ≤ 64 ∧ p ≤ word.length ∧ word.length ≤ 255
instance (word : List UInt8) (p : Int) : Decidable (goodP word p) := by unfold goodP; infer_instance
def decB (word : List UInt8) (p : Int) (zs : List Int) : List UInt8 × Nat × Nat :=
  if goodP word p then decOk word p.toNat (lostB zs) else ([], 0, 1)
theorem sorted_room (l : List Int) (h : l.Pairwise (· < ·)) (n k : Nat) (hk : k ≤ l.length) (hin : ∀ j, j < k → inR n (l[j]?.getD 0)) : k ≤ n := by
  have hge : ∀ j, j < k → (j : Int) ≤ l[j]?.getD 0 := by
    intro j
    induction j with
    | zero => intro hj; exact (hin 0 hj).1
    | succ j ih =>
      intro hj
      have h1 := ih (by omega)
      have h2 := List.pairwise_iff_getElem.1 h j (j + 1) (by omega) (by omega) (by omega)
      rw [List.getElem?_eq_getElem (by omega), Option.getD_some] at h1 ⊢
      omega
  by_cases h0 : k = 0
  · omega
  · have h1 := hge (k - 1) (by omega)
    have h2 := (hin (k - 1) (by omega)).2
    omega
theorem decOk_out (W : List UInt8) (p n k : Nat) (lost : List Int) (hW : W.length = n) (hk : k < lost.length) (h : ¬ inR n (lost[k]?.getD 0)) : decOk W p lost = ([], 0, 1) := by
  unfold decOk
  rw [if_neg]
  intro e
  rw [List.all_eq_true] at e
  have := of_decide_eq_true (e lost[k] (List.getElem_mem hk))
  rw [List.getElem?_eq_getElem hk, Option.getD_some] at h
  exact h ⟨this.1, by rw [← hW]; exact this.2⟩
theorem decOk_in (W : List UInt8) (p n : Nat) (lost : List Int) (hW : W.length = n) (h : ∀ j, j < lost.length → inR n (lost[j]?.getD 0)) : decOk W p lost = if p < lost.length then ([], 0, 11) else decMain W p lost := by
  unfold decOk
  rw [if_pos]
  rw [List.all_eq_true]
  intro x hx
  obtain ⟨j, hj, rfl⟩ := List.mem_iff_getElem.1 hx
  have := h j hj
  rw [List.getElem?_eq_getElem hj, Option.getD_some] at this
  exact decide_eq_true ⟨this.1, by rw [hW]; exact this.2⟩
end Go.Proofs.Ytamkahjdedomlaa
