/-
  What a decoding that succeeds is worth, from the checks at its end alone. No program in sight.
-/
import Derived.Test.YtamkahjdedomlaaDecDef
import Derived.Test.YtamkahjdedomlaaMap
namespace Go.Proofs.Ytamkahjdedomlaa
set_option linter.unusedVariables false

/-- The facts of a decoding that succeeds. -/
structure Good (W : List UInt8) (q : Nat) (zs : List Int) (o : List UInt8) : Prop where
  ok : 1 ≤ q ∧ q ≤ 64 ∧ q ≤ W.length ∧ W.length ≤ 255
  len : o.length = W.length
  cw : isCw o q = true
  rad : 2 * wrongTo (diffs W o) (lostB zs) (diffs W o).length + (lostB zs).length ≤ q
  room : ∀ x ∈ zs, inR W.length x
theorem decB_sound (W : List UInt8) (p : Int) (zs : List Int) : decB W p zs = ([], 0, 1) ∨ decB W p zs = ([], 0, 11) ∨ ∃ (q : Nat) (o : List UInt8), p = q ∧ decB W p zs = (o, (diffs W o).length, 0) ∧ Good W q zs o := by
  unfold decB
  by_cases hg : goodP W p
  · rw [if_pos hg]
    obtain ⟨h1, h2, h3, h4⟩ := hg
    obtain ⟨q, rfl⟩ : ∃ q : Nat, p = q := ⟨p.toNat, by omega⟩
    rw [Int.toNat_natCast]
    unfold decOk
    by_cases ha : (lostB zs).all (fun x => decide (0 ≤ x ∧ x < (W.length : Int))) = true
    · rw [if_pos ha]
      by_cases hb : q < (lostB zs).length
      · rw [if_pos hb]; exact Or.inr (Or.inl rfl)
      · rw [if_neg hb]
        unfold decMain
        simp only
        cases hd : decTo (locB (synB W q) (erTo W.length (lostB zs) (lostB zs).length)) ((pmul (synB W q) (locB (synB W q) (erTo W.length (lostB zs) (lostB zs).length))).take q) (pderiv (locB (synB W q) (erTo W.length (lostB zs) (lostB zs).length))) W W.length W.length with
        | none => exact Or.inr (Or.inl rfl)
        | some x =>
          obtain ⟨o, r⟩ := x
          simp only
          by_cases hc : r + 1 = (locB (synB W q) (erTo W.length (lostB zs) (lostB zs).length)).length ∧ isCw o q = true ∧ radB q (wrongTo (diffs W o) (lostB zs) (diffs W o).length) (lostB zs).length = true
          · rw [if_pos hc]
            refine Or.inr (Or.inr ⟨q, o, rfl, rfl, ⟨by omega, by omega, by omega, by omega⟩, (decTo_len hd).1, hc.2.1, ?_, ?_⟩)
            · have := of_decide_eq_true hc.2.2; omega
            · intro x hx
              rw [List.all_eq_true] at ha
              have := of_decide_eq_true (ha x ((lost_mem zs x).2 hx))
              exact ⟨this.1, this.2⟩
          · rw [if_neg hc]; exact Or.inr (Or.inl rfl)
    · rw [if_neg ha]; exact Or.inl rfl
  · rw [if_neg hg]; exact Or.inl rfl

theorem wrongTo_eq (ds : List Nat) (lost : List Int) (k : Nat) (hk : k ≤ ds.length) : wrongTo ds lost k = ((ds.take k).filter fun (i : Nat) => !lost.contains (i : Int)).length := by
  induction k with
  | zero => rfl
  | succ k ih =>
    simp only [wrongTo]
    rw [List.take_succ_eq_append_getElem (by omega), List.filter_append, List.length_append, ← ih (by omega), List.getElem?_eq_getElem (by omega), Option.getD_some]
    by_cases h : lost.contains ((ds[k] : Nat) : Int) = true
    · rw [if_pos h, List.filter_cons_of_neg (by simpa using h)]; rfl
    · rw [if_neg h, List.filter_cons_of_pos (by simpa using h)]; rfl
theorem wrong_all (ds : List Nat) (lost : List Int) : wrongTo ds lost ds.length = (ds.filter fun (i : Nat) => !lost.contains (i : Int)).length := by
  rw [wrongTo_eq _ _ _ (Nat.le_refl _), List.take_length]
theorem difN_comm (a b : List UInt8) (k : Nat) : difN a b k = difN b a k := by
  induction k with
  | zero => rfl
  | succ k ih =>
    simp only [difN]
    by_cases h : a[k]?.getD 0 = b[k]?.getD 0
    · rw [if_pos h, if_pos h.symm, ih]
    · rw [if_neg h, if_neg (fun e => h e.symm), ih]
/-- The law's two counts behind k places. -/
def allN (a b : List UInt8) (k : Nat) : Nat := (difN a b k).length
def errN (a b : List UInt8) (S : List (Int × Bool)) (k : Nat) : Nat := ((difN a b k).filter fun (i : Nat) => (getK S (i : Int)).isNone).length
theorem allN_same {a b : List UInt8} {k : Nat} (h : a[k]?.getD 0 = b[k]?.getD 0) : allN a b (k + 1) = allN a b k := by unfold allN; simp only [difN]; rw [if_pos h]
theorem allN_diff {a b : List UInt8} {k : Nat} (h : a[k]?.getD 0 ≠ b[k]?.getD 0) : allN a b (k + 1) = allN a b k + 1 := by unfold allN; simp only [difN]; rw [if_neg h, List.length_append]; rfl
theorem errN_same {a b : List UInt8} {S : List (Int × Bool)} {k : Nat} (h : a[k]?.getD 0 = b[k]?.getD 0) : errN a b S (k + 1) = errN a b S k := by unfold errN; simp only [difN]; rw [if_pos h]
theorem errN_in {a b : List UInt8} {S : List (Int × Bool)} {k : Nat} (h : a[k]?.getD 0 ≠ b[k]?.getD 0) (h2 : (getK S (k : Int)).isNone = false) : errN a b S (k + 1) = errN a b S k := by
  unfold errN; simp only [difN]; rw [if_neg h, List.filter_append, List.filter_cons_of_neg (by rw [h2]; decide)]; simp
theorem errN_out {a b : List UInt8} {S : List (Int × Bool)} {k : Nat} (h : a[k]?.getD 0 ≠ b[k]?.getD 0) (h2 : (getK S (k : Int)).isNone = true) : errN a b S (k + 1) = errN a b S k + 1 := by
  unfold errN; simp only [difN]; rw [if_neg h, List.filter_append, List.filter_cons_of_pos (p := fun (i : Nat) => (getK S (i : Int)).isNone) h2, List.length_append]; rfl
theorem errN_le (a b : List UInt8) (S : List (Int × Bool)) (k : Nat) : errN a b S k ≤ k := Nat.le_trans (List.length_filter_le _ _) (difN_len a b k)

/-- The set of the first k erasures. -/
def setTo (zs : List Int) : Nat → List (Int × Bool)
  | 0 => []
  | k + 1 => putK (setTo zs k) (zs[k]?.getD 0) true
theorem setTo_mem (zs : List Int) (k : Nat) (hk : k ≤ zs.length) (x : Int) : x ∈ (setTo zs k).map (·.1) ↔ x ∈ zs.take k := by
  induction k with
  | zero => simp [setTo]
  | succ k ih =>
    simp only [setTo]
    rw [mem_keys_put, ih (by omega), List.take_succ_eq_append_getElem (by omega), List.mem_append, List.mem_singleton, List.getElem?_eq_getElem (by omega), Option.getD_some]
    exact Or.comm
theorem setTo_nodup (zs : List Int) (k : Nat) : ((setTo zs k).map (·.1)).Nodup := by
  induction k with
  | zero => simp [setTo]
  | succ k ih => exact nodup_put _ _ _ ih
theorem setTo_true (zs : List Int) (k : Nat) (x : Int) (b : Bool) (h : getK (setTo zs k) x = some b) : b = true := by
  induction k generalizing b with
  | zero => cases h
  | succ k ih =>
    simp only [setTo] at h
    rw [getK_put] at h
    split at h
    · cases h; rfl
    · exact ih b h
theorem setTo_len (zs : List Int) (k : Nat) : (setTo zs k).length ≤ k := by
  induction k with
  | zero => exact Nat.le_refl _
  | succ k ih => have := putK_len (setTo zs k) (zs[k]?.getD 0) true; simp only [setTo]; omega
theorem lost_nodup (zs : List Int) : (lostB zs).Nodup := (lost_lt zs).imp fun h e => by omega
theorem setTo_all (zs : List Int) : (setTo zs zs.length).length = (lostB zs).length := by
  have h : ((setTo zs zs.length).map (·.1)).Perm (lostB zs) := (List.perm_ext_iff_of_nodup (setTo_nodup zs _) (lost_nodup zs)).2 fun x => by
    rw [setTo_mem zs _ (Nat.le_refl _), List.take_length, lost_mem]
  have := h.length_eq
  rwa [List.length_map] at this
theorem setTo_none (zs : List Int) (x : Int) : (getK (setTo zs zs.length) x).isNone = !(lostB zs).contains x := by
  rw [Bool.eq_iff_iff]
  simp only [Option.isNone_iff_eq_none, Bool.not_eq_true', List.contains_eq_mem]
  rw [getK_none, setTo_mem zs _ (Nat.le_refl _), List.take_length, ← lost_mem]
  simp
theorem errN_wrong (W o : List UInt8) (zs : List Int) (h : o.length = W.length) : errN o W (setTo zs zs.length) o.length = wrongTo (diffs W o) (lostB zs) (diffs W o).length := by
  rw [wrong_all]
  unfold errN
  rw [difN_comm, h, difN_diffs]
  congr 1
  refine List.filter_congr fun i _ => ?_
  exact setTo_none zs i
theorem allN_diffs (W o : List UInt8) (h : o.length = W.length) : allN o W o.length = (diffs W o).length := by
  unfold allN; rw [difN_comm, h, difN_diffs]
end Go.Proofs.Ytamkahjdedomlaa
