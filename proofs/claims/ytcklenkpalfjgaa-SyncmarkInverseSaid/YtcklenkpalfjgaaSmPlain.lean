/-
  The plain mathematics of synchronization marks: distances as counts, no program in sight.
-/
import Derived.WalkKit
import Derived.Lib.Strings
namespace Go.Proofs.Ytcklenkpalfjgaa.Sm

/-- The cell at an index of a strip, as a number; 0 where there is none. -/
def cellAt (s : ByteArray) (i : Int) : Int := if 0 ≤ i then ((s.data[i.toNat]?.getD 0).toNat : Int) else 0
def markB : ByteArray := ⟨#[49, 49, 49, 49, 49, 48, 48, 49, 49, 48, 49, 48, 49, 48, 48, 48]⟩
def plainB : ByteArray := ⟨#[48, 48, 48, 48, 48, 49, 49, 48, 48, 49, 48, 49, 48, 49, 49, 49]⟩
def hit (s : ByteArray) (a : Int) (i : Nat) : Bool := decide (0 ≤ a + i ∧ a + i < s.size) && (cellAt s (a + i) == cellAt markB i)
def distTo (s : ByteArray) (a : Int) : Nat → Int
  | 0 => 16
  | k + 1 => distTo s a k - (if hit s a k then 1 else 0)
def dist (s : ByteArray) (a : Int) : Int := distTo s a 16
theorem distTo_bd (s : ByteArray) (a : Int) (k : Nat) : 16 - k ≤ distTo s a k ∧ distTo s a k ≤ 16 := by
  induction k with
  | zero => simp [distTo]
  | succ k ih => simp only [distTo]; split <;> omega
theorem cellAt_nat (s : ByteArray) (k : Nat) (h : k < s.size) : cellAt s (k : Int) = (s[k].toNat : Int) := by
  have : s.data[k]?.getD 0 = s[k] := by
    rw [Array.getElem?_eq_getElem (by simpa using h)]; rfl
  simp [cellAt]; rw [this]
theorem cellAt_int (s : ByteArray) (i : Int) (k : Nat) (hi : i = k) (h : k < s.size) : cellAt s i = (s[k].toNat : Int) := by
  subst hi; exact cellAt_nat s k h
theorem hit_in (s : ByteArray) (a : Int) (k m : Nat) (hm : a + k = m) (h : m < s.size) (hk : k < markB.size) :
    hit s a k = ((s[m].toNat : Int) == (markB[k].toNat : Int)) := by
  unfold hit
  rw [cellAt_int s (a + k) m hm h, cellAt_nat markB k hk, decide_eq_true (by omega)]; rfl
theorem hit_out (s : ByteArray) (a : Int) (k : Nat) (h : ¬ (0 ≤ a + k ∧ a + k < s.size)) : hit s a k = false := by
  unfold hit; rw [decide_eq_false h]; rfl
theorem step_in (s : ByteArray) (a : Int) (k m : Nat) (hm : a + k = m) (h : m < s.size) (hk : k < markB.size) (b : Bool)
    (hb : ((s[m].toNat : Int) == (markB[k].toNat : Int)) = b) : distTo s a (k + 1) = distTo s a k - (if b then 1 else 0) := by
  simp only [distTo]; rw [hit_in s a k m hm h hk, hb]
theorem step_out (s : ByteArray) (a : Int) (k : Nat) (h : ¬ (0 ≤ a + k ∧ a + k < s.size)) : distTo s a (k + 1) = distTo s a k := by
  simp only [distTo]; rw [hit_out s a k h]; simp

def findN (s : ByteArray) : Nat → Nat → Int × Bool
  | 0, _ => (0, false)
  | f + 1, k => if k + 16 ≤ s.size then (if dist s k ≤ 2 then ((k : Int), true) else findN s f (k + 1)) else (0, false)
/-- The first offset, from k on, at which a mark is found. -/
def find (s : ByteArray) (k : Nat) : Int × Bool := findN s (s.size + 1 - k) k
theorem find_end (s : ByteArray) (k : Nat) (h : ¬ k + 16 ≤ s.size) : find s k = (0, false) := by
  unfold find
  cases e : s.size + 1 - k with
  | zero => rfl
  | succ f => simp only [findN]; rw [if_neg h]
theorem find_hit (s : ByteArray) (k : Nat) (h : k + 16 ≤ s.size) (hd : dist s k ≤ 2) : find s k = ((k : Int), true) := by
  unfold find
  obtain ⟨f, e⟩ : ∃ f, s.size + 1 - k = f + 1 := ⟨s.size - k, by omega⟩
  rw [e]; simp only [findN]; rw [if_pos h, if_pos hd]
theorem find_step (s : ByteArray) (k : Nat) (h : k + 16 ≤ s.size) (hd : ¬ dist s k ≤ 2) : find s k = find s (k + 1) := by
  unfold find
  obtain ⟨f, e⟩ : ∃ f, s.size + 1 - k = f + 1 := ⟨s.size - k, by omega⟩
  rw [e, show s.size + 1 - (k + 1) = f by omega]; simp only [findN]; rw [if_pos h, if_neg hd]

/-- The number of cells, of the first k from a on, that are not those of the mark. -/
def offTo (s : ByteArray) (a : Int) : Nat → Int
  | 0 => 0
  | k + 1 => offTo s a k + (if cellAt s (a + k) ≠ cellAt markB k then 1 else 0)
theorem cellAt_out (s : ByteArray) (i : Int) (h : ¬ (0 ≤ i ∧ i < s.size)) : cellAt s i = 0 := by
  unfold cellAt
  split
  · rw [Array.getElem?_eq_none (by show s.data.size ≤ _; have : s.data.size = s.size := rfl; omega)]; rfl
  · rfl
theorem cellAt_bd (s : ByteArray) (i : Int) : 0 ≤ cellAt s i ∧ cellAt s i ≤ 255 := by
  unfold cellAt
  split
  · have := (s.data[i.toNat]?.getD 0).toNat_lt; omega
  · omega
theorem mark_pos : ∀ k, k < 16 → cellAt markB (k : Nat) ≠ 0 := by
  have h : ∀ k : Fin 16, cellAt markB (k.val : Nat) ≠ 0 := by decide
  exact fun k hk => h ⟨k, hk⟩
theorem hit_off (s : ByteArray) (a : Int) (k : Nat) (hk : k < 16) : hit s a k = decide (cellAt s (a + k) = cellAt markB k) := by
  by_cases h : 0 ≤ a + k ∧ a + k < s.size
  · unfold hit; rw [decide_eq_true h, Bool.true_and]; rw [Bool.eq_iff_iff]; simp
  · rw [hit_out s a k h, cellAt_out s _ h]
    rw [eq_comm, decide_eq_false_iff_not]; exact fun e => mark_pos k hk e.symm
theorem distTo_off (s : ByteArray) (a : Int) (k : Nat) (hk : k ≤ 16) : distTo s a k = 16 - k + offTo s a k := by
  induction k with
  | zero => rfl
  | succ k ih =>
    simp only [distTo, offTo]
    rw [ih (by omega), hit_off s a k (by omega)]
    by_cases h : cellAt s (a + k) = cellAt markB k <;> simp [h] <;> omega
theorem dist_off (s : ByteArray) (a : Int) : dist s a = offTo s a 16 := by
  unfold dist; rw [distTo_off s a 16 (Nat.le_refl _)]; omega
theorem offTo_bd (s : ByteArray) (a : Int) (k : Nat) : 0 ≤ offTo s a k ∧ offTo s a k ≤ k := by
  induction k with
  | zero => simp [offTo]
  | succ k ih => simp only [offTo]; split <;> omega
theorem distTo_far (s : ByteArray) (a : Int) (h : a < -16 ∨ (s.size : Int) ≤ a) (k : Nat) (hk : k ≤ 16) : distTo s a k = 16 := by
  induction k with
  | zero => rfl
  | succ k ih => rw [step_out s a k (by omega)]; exact ih (by omega)
theorem offTo_yes (s : ByteArray) (a : Int) (k m : Nat) (hk : k < markB.size) (hm : m = k) (h : (cellAt s (a + k) != (markB[k].toNat : Int)) = true) : offTo s a (m + 1) = offTo s a k + 1 := by
  subst hm; simp only [offTo]; rw [cellAt_nat markB m hk, if_pos (by simpa using h)]
theorem offTo_no (s : ByteArray) (a : Int) (k m : Nat) (hk : k < markB.size) (hm : m = k) (h : (cellAt s (a + k) != (markB[k].toNat : Int)) = false) : offTo s a (m + 1) = offTo s a k := by
  subst hm; simp only [offTo]; rw [cellAt_nat markB m hk, if_neg (by simpa using h)]; omega

/-- Whether the first k cells from a on are those of the plain mark. -/
def plainTo (s : ByteArray) (a : Int) : Nat → Bool
  | 0 => true
  | k + 1 => plainTo s a k && (cellAt s (a + k) == cellAt plainB k)
def isPlain (s : ByteArray) (a : Int) : Bool := plainTo s a 16
theorem plainTo_le (s : ByteArray) (a : Int) (k m : Nat) (hm : k ≤ m) (h : plainTo s a k = false) : plainTo s a m = false := by
  induction m with
  | zero => obtain rfl : k = 0 := by omega
            exact h
  | succ m ih =>
    by_cases e : k = m + 1
    · subst e; exact h
    · simp only [plainTo]; rw [ih (by omega)]; rfl
theorem plain_pos : ∀ k, k < 16 → cellAt plainB (k : Nat) ≠ 0 := by
  have h : ∀ k : Fin 16, cellAt plainB (k.val : Nat) ≠ 0 := by decide
  exact fun k hk => h ⟨k, hk⟩
theorem isPlain_out (s : ByteArray) (a : Int) (k : Nat) (hk : k < 16) (h : ¬ (0 ≤ a + k ∧ a + k < s.size)) : isPlain s a = false := by
  refine plainTo_le s a (k + 1) 16 (by omega) ?_
  simp only [plainTo]; rw [cellAt_out s _ h]
  rw [Bool.and_eq_false_iff]; right; rw [beq_eq_false_iff_ne]; exact fun e => plain_pos k hk e.symm
theorem isPlain_far (s : ByteArray) (a : Int) (h : ¬ (0 ≤ a ∧ a + 16 ≤ s.size)) : isPlain s a = false := by
  by_cases h0 : 0 ≤ a
  · exact isPlain_out s a 15 (by omega) (by omega)
  · exact isPlain_out s a 0 (by omega) (by omega)
theorem plainTo_iff (s : ByteArray) (a : Int) (k : Nat) : plainTo s a k = true ↔ ∀ i, i < k → cellAt s (a + (i : Nat)) = cellAt plainB i := by
  induction k with
  | zero => simp [plainTo]
  | succ k ih =>
    simp only [plainTo, Bool.and_eq_true, beq_iff_eq, ih]
    constructor
    · intro h i hi
      by_cases e : i = k
      · subst e; exact h.2
      · exact h.1 i (by omega)
    · exact fun h => ⟨fun i hi => h i (by omega), h k (by omega)⟩
theorem slice_plain (s : ByteArray) (a : Nat) (h : a + 16 ≤ s.size) : ((s.extract a (a + 16)).toList == plainB.toList) = isPlain s a := by
  have hz : s.data.size = s.size := rfl
  have hp : plainB.data.size = 16 := rfl
  have cs : ∀ i : Nat, cellAt s ((a : Int) + i) = ((s.data[a + i]?.getD 0).toNat : Int) := by
    intro i; unfold cellAt; rw [if_pos (by omega), show ((a : Int) + i).toNat = a + i by omega]
  have cp : ∀ i : Nat, cellAt plainB i = ((plainB.data[i]?.getD 0).toNat : Int) := by
    intro i; unfold cellAt; rw [if_pos (by omega)]; rfl
  rw [Bool.eq_iff_iff]; unfold isPlain; rw [plainTo_iff, beq_iff_eq, Lib.extract_toList, Lib.toList_data]
  constructor
  · intro h i hi
    have e : (List.take (a + 16 - a) (List.drop a s.data.toList))[i]? = plainB.data.toList[i]? := by rw [h]
    rw [List.getElem?_take, if_pos (by omega), List.getElem?_drop, Array.getElem?_toList, Array.getElem?_toList] at e
    rw [cs, cp, e]
  · intro h
    refine List.ext_getElem? fun i => ?_
    rw [List.getElem?_take]
    split
    · have e := h i (by omega)
      rw [cs, cp, Array.getElem?_eq_getElem (by omega : a + i < s.data.size), Array.getElem?_eq_getElem (by omega : i < plainB.data.size)] at e
      rw [List.getElem?_drop, Array.getElem?_toList, Array.getElem?_toList, Array.getElem?_eq_getElem (by omega : a + i < s.data.size), Array.getElem?_eq_getElem (by omega : i < plainB.data.size)]
      simp only [Option.getD_some] at e
      congr 1
      exact UInt8.toNat_inj.1 (by omega)
    · rw [Array.getElem?_toList, Array.getElem?_eq_none (by omega)]
theorem slice_plain' (s : ByteArray) (a : Nat) (h : a + 16 ≤ s.size) : ((s.extract a (a + 16)).toList == [48, 48, 48, 48, 48, 49, 49, 48, 48, 49, 48, 49, 48, 49, 49, 49]) = isPlain s a := by
  have e : plainB.toList = [48, 48, 48, 48, 48, 49, 49, 48, 48, 49, 48, 49, 48, 49, 49, 49] := by rw [Lib.toList_data]; rfl
  rw [← e]; exact slice_plain s a h
theorem plainTo_yes (s : ByteArray) (a : Int) (k m : Nat) (hk : k < plainB.size) (hm : m = k) (h : (cellAt s (a + k) != (plainB[k].toNat : Int)) = true) : isPlain s a = false := by
  subst hm
  refine plainTo_le s a (m + 1) 16 (by have : plainB.size = 16 := rfl; omega) ?_
  simp only [plainTo]; rw [cellAt_nat plainB m hk]; rw [Bool.and_eq_false_iff]; right; simpa using h
theorem plainTo_no (s : ByteArray) (a : Int) (k m : Nat) (hk : k < plainB.size) (hm : m = k) (h : (cellAt s (a + k) != (plainB[k].toNat : Int)) = false) : plainTo s a (m + 1) = plainTo s a k := by
  subst hm; simp only [plainTo]; rw [cellAt_nat plainB m hk]; have : cellAt s (a + m) = (plainB[m].toNat : Int) := by simpa using h
  rw [this]; simp

end Go.Proofs.Ytcklenkpalfjgaa.Sm
