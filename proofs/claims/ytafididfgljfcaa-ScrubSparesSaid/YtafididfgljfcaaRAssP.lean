/-
  What the reference's Assess computes, and that it is what Assess computes. No program in sight.
-/
import Derived.Test.YtafididfgljfcaaAssP
namespace Go.Proofs.Ytafididfgljfcaa
open Go.RowKit
set_option linter.unusedVariables false

def ostep (l : List Sg) (r : Int) (h : He) (f : Fr) : He :=
  if f.reel = r then
    match best l f with
    | none => ⟨h.reel, h.found, h.missing + 1, h.worst, h.corr⟩
    | some n => ⟨h.reel, h.found + 1, h.missing, if h.found = 0 ∨ h.worst < n then n else h.worst, h.corr + n⟩
  else h
def oneL (l : List Sg) (fs : List Fr) (r : Int) : He := fs.foldl (ostep l r) ⟨r, 0, 0, 0, 0⟩
theorem oneL_snoc (l : List Sg) (fs : List Fr) (r : Int) (k : Nat) (s : Fr) (h : fs[k]? = some s) : oneL l (fs.take (k + 1)) r = ostep l r (oneL l (fs.take k) r) s := by
  have : fs.take (k + 1) = fs.take k ++ [s] := by rw [List.take_add_one, h]; rfl
  rw [this]; unfold oneL; rw [List.foldl_append]; rfl
/-- How many of the first k numbers stand before r: the place behind the last of them that is smaller. -/
def atI (R : List Int) (r : Int) : Nat → Nat
  | 0 => 0
  | k + 1 => if R[k]?.getD 0 < r then k + 1 else atI R r k
theorem atI_le (R : List Int) (r : Int) (k : Nat) : atI R r k ≤ k := by
  induction k with
  | zero => exact Nat.le_refl _
  | succ k ih =>
    unfold atI
    split
    · exact Nat.le_refl _
    · omega
def rstep (R : List Int) (f : Fr) : List Int := if f.reel ∈ R then R else R.take (atI R f.reel R.length) ++ f.reel :: R.drop (atI R f.reel R.length)
def reelsL (fs : List Fr) : List Int := fs.foldl rstep []
theorem reelsL_snoc (fs : List Fr) (k : Nat) (s : Fr) (h : fs[k]? = some s) : reelsL (fs.take (k + 1)) = rstep (reelsL (fs.take k)) s := by
  have : fs.take (k + 1) = fs.take k ++ [s] := by rw [List.take_add_one, h]; rfl
  rw [this]; unfold reelsL; rw [List.foldl_append]; rfl
theorem rstep_len (R : List Int) (f : Fr) : (rstep R f).length ≤ R.length + 1 := by
  unfold rstep
  split
  · omega
  · rw [List.length_append, List.length_cons, List.length_take, List.length_drop]; omega
theorem rstep_mem (R : List Int) (f : Fr) (x : Int) : x ∈ rstep R f ↔ x ∈ R ∨ x = f.reel := by
  unfold rstep
  split
  next h =>
    constructor
    · exact Or.inl
    · rintro (h1 | rfl)
      · exact h1
      · exact h
  next h =>
    have e : x ∈ R ↔ x ∈ R.take (atI R f.reel R.length) ∨ x ∈ R.drop (atI R f.reel R.length) := by rw [← List.mem_append, List.take_append_drop]
    rw [e, List.mem_append, List.mem_cons]
    constructor
    · rintro (h1 | h1 | h1)
      · exact Or.inl (Or.inl h1)
      · exact Or.inr h1
      · exact Or.inl (Or.inr h1)
    · rintro ((h1 | h1) | h1)
      · exact Or.inl h1
      · exact Or.inr (Or.inr h1)
      · exact Or.inr (Or.inl h1)
theorem atI_spec (R : List Int) (r : Int) (hs : R.Pairwise (· < ·)) (k : Nat) (hk : k ≤ R.length) : (∀ i (h : i < R.length), i < atI R r k → R[i] < r) ∧ (∀ i (h : i < R.length), atI R r k ≤ i → i < k → r ≤ R[i]) := by
  induction k with
  | zero => exact ⟨fun i h h1 => by simp [atI] at h1, fun i h h1 h2 => by omega⟩
  | succ k ih =>
    obtain ⟨h1, h2⟩ := ih (by omega)
    have hk' : k < R.length := by omega
    have hg : R[k]?.getD 0 = R[k] := by rw [List.getElem?_eq_getElem hk']; rfl
    unfold atI
    rw [hg]
    split
    next h =>
      refine ⟨fun i hi hik => ?_, fun i hi h3 h4 => by omega⟩
      by_cases c : i = k
      · subst c; exact h
      · have := List.pairwise_iff_getElem.1 hs i k hi hk' (by omega)
        omega
    next h =>
      refine ⟨h1, fun i hi h3 h4 => ?_⟩
      by_cases c : i = k
      · subst c; omega
      · exact h2 i hi h3 (by omega)
theorem rstep_lt (R : List Int) (f : Fr) (hs : R.Pairwise (· < ·)) : (rstep R f).Pairwise (· < ·) := by
  unfold rstep
  split
  · exact hs
  next h =>
    obtain ⟨h1, h2⟩ := atI_spec R f.reel hs R.length (Nat.le_refl _)
    obtain ⟨n, hn⟩ : ∃ n, atI R f.reel R.length = n := ⟨_, rfl⟩
    have hnl : n ≤ R.length := hn ▸ atI_le R f.reel R.length
    rw [hn] at h1 h2 ⊢
    have hlo : ∀ a ∈ R.take n, a < f.reel := by
      intro a ha
      obtain ⟨i, hi, rfl⟩ := List.mem_iff_getElem.1 ha
      rw [List.length_take] at hi
      rw [List.getElem_take]
      exact h1 i (by omega) (by omega)
    have hhi : ∀ b ∈ R.drop n, f.reel < b := by
      intro b hb
      have hbR : b ∈ R := List.mem_of_mem_drop hb
      obtain ⟨i, hi, rfl⟩ := List.mem_iff_getElem.1 hb
      rw [List.length_drop] at hi
      rw [List.getElem_drop] at hbR ⊢
      have := h2 (n + i) (by omega) (by omega) (by omega)
      have hne : R[n + i] ≠ f.reel := fun e => h (by rw [← e]; exact hbR)
      omega
    have hR : (R.take n ++ R.drop n).Pairwise (· < ·) := by rw [List.take_append_drop]; exact hs
    rw [List.pairwise_append] at hR ⊢
    refine ⟨hR.1, List.pairwise_cons.2 ⟨hhi, hR.2.1⟩, fun a ha b hb => ?_⟩
    rcases List.mem_cons.1 hb with rfl | hb
    · exact hlo a ha
    · exact hR.2.2 a ha b hb
theorem reelsL_spec (fs : List Fr) : (reelsL fs).Pairwise (· < ·) ∧ (∀ x, x ∈ reelsL fs ↔ ∃ f ∈ fs, f.reel = x) ∧ (reelsL fs).length ≤ fs.length := by
  suffices H : ∀ (fs : List Fr) (R : List Int), R.Pairwise (· < ·) → (fs.foldl rstep R).Pairwise (· < ·) ∧ (∀ x, x ∈ fs.foldl rstep R ↔ x ∈ R ∨ ∃ f ∈ fs, f.reel = x) ∧ (fs.foldl rstep R).length ≤ R.length + fs.length from by
    have := H fs [] List.Pairwise.nil
    refine ⟨this.1, fun x => (this.2.1 x).trans ?_, by have := this.2.2; simp only [List.length_nil] at this; unfold reelsL; omega⟩
    simp
  intro fs
  induction fs with
  | nil => intro R h; exact ⟨h, fun x => by simp, by simp⟩
  | cons f fs ih =>
    intro R h
    obtain ⟨h1, h2, h3⟩ := ih (rstep R f) (rstep_lt R f h)
    refine ⟨h1, fun x => (h2 x).trans ?_, ?_⟩
    · rw [rstep_mem]
      constructor
      · rintro ((h4 | h4) | ⟨g, hg, h4⟩)
        · exact Or.inl h4
        · exact Or.inr ⟨f, by simp, h4.symm⟩
        · exact Or.inr ⟨g, by simp [hg], h4⟩
      · rintro (h4 | ⟨g, hg, h4⟩)
        · exact Or.inl (Or.inl h4)
        · rcases List.mem_cons.1 hg with rfl | hg
          · exact Or.inl (Or.inr h4.symm)
          · exact Or.inr ⟨g, hg, h4⟩
    · have := rstep_len R f
      simp only [List.foldl_cons, List.length_cons]; omega
theorem keys_fold (found : List (Fr × Int)) (fs : List Fr) (x : Int) : x ∈ (assessM found fs).map (·.1) ↔ ∃ f ∈ fs, f.reel = x := by
  have hk : ∀ (m : List (Int × He)) (y : Int) (v : He), ∀ x, x ∈ (putK m y v).map (·.1) ↔ x ∈ m.map (·.1) ∨ x = y := by
    intro m y v x
    rw [mem_keys_put]
    exact Or.comm
  suffices H : ∀ (fs : List Fr) (m : List (Int × He)), x ∈ (fs.foldl (astep found) m).map (·.1) ↔ x ∈ m.map (·.1) ∨ ∃ f ∈ fs, f.reel = x from by
    have := H fs []
    simp only [List.map_nil, List.not_mem_nil, false_or] at this
    exact this
  intro fs
  induction fs with
  | nil => intro m; simp
  | cons f fs ih =>
    intro m
    rw [List.foldl_cons, ih]
    unfold astep
    rw [hk]
    constructor
    · rintro ((h4 | h4) | ⟨g, hg, h4⟩)
      · exact Or.inl h4
      · exact Or.inr ⟨f, by simp, h4.symm⟩
      · exact Or.inr ⟨g, by simp [hg], h4⟩
    · rintro (h4 | ⟨g, hg, h4⟩)
      · exact Or.inl (Or.inl h4)
      · rcases List.mem_cons.1 hg with rfl | hg
        · exact Or.inl (Or.inr h4.symm)
        · exact Or.inr ⟨g, hg, h4⟩
/-- The entry of a reel is the fold over its frames. -/
theorem entry_eq (l : List Sg) (hl : ∀ s ∈ l, 0 ≤ s.corr) (fs : List Fr) (r : Int) (hr : ∃ f ∈ fs, f.reel = r) : (getK (assessM (countsL l) fs) r).getD zeroH = oneL l fs r := by
  have hb : ∀ f n, best l f = some n → 0 ≤ n := fun f n h => by
    obtain ⟨s, hs, _, rfl⟩ := best_mem l f n h
    exact hl s hs
  suffices H : ∀ (fs : List Fr) (m : List (Int × He)) (h : He), 0 ≤ h.worst → 0 ≤ h.found → (h.found = 0 → h.worst = 0) → h.reel = r → ((getK m r = none ∧ h = ⟨r, 0, 0, 0, 0⟩) ∨ getK m r = some h) →
      (getK m r ≠ none ∨ ∃ f ∈ fs, f.reel = r) → (getK (fs.foldl (astep (countsL l)) m) r).getD zeroH = fs.foldl (ostep l r) h from by
    exact H fs [] ⟨r, 0, 0, 0, 0⟩ (Int.le_refl _) (Int.le_refl _) (fun _ => rfl) rfl (Or.inl ⟨rfl, rfl⟩) (Or.inr hr)
  intro fs
  induction fs with
  | nil =>
    intro m h _ _ _ _ h1 h2
    rcases h1 with ⟨h1, _⟩ | h1
    · rcases h2 with h2 | ⟨f, hf, _⟩
      · exact absurd h1 h2
      · simp at hf
    · simp only [List.foldl_nil]; rw [h1]; rfl
  | cons f fs ih =>
    intro m h w0 f0 hw hrl h1 h2
    rw [List.foldl_cons, List.foldl_cons]
    by_cases c : f.reel = r
    · have hg : (getK m f.reel).getD zeroH = h ∨ ((getK m f.reel).getD zeroH = zeroH ∧ h = ⟨r, 0, 0, 0, 0⟩) := by
        rw [c]
        rcases h1 with ⟨h1, h3⟩ | h1
        · exact Or.inr ⟨by rw [h1]; rfl, h3⟩
        · exact Or.inl (by rw [h1]; rfl)
      have hst : hstep (countsL l) ((getK m f.reel).getD zeroH) f = ostep l r h f := by
        unfold hstep ostep
        rw [getK_counts, if_pos c]
        cases hbf : best l f with
        | none =>
          rcases hg with hg | ⟨hg, hz⟩
          · rw [hg]; simp only; rw [c, hrl]
          · rw [hg, hz]; simp only [zeroH]; rw [c]
        | some n =>
          have hn := hb f n hbf
          rcases hg with hg | ⟨hg, hz⟩
          · rw [hg]; simp only
            have : max h.worst n = if h.found = 0 ∨ h.worst < n then n else h.worst := by
              by_cases d : h.found = 0
              · rw [if_pos (Or.inl d), hw d]; omega
              · by_cases e : h.worst < n
                · rw [if_pos (Or.inr e)]; omega
                · rw [if_neg (by omega)]; omega
            rw [this, c, hrl]
          · rw [hg, hz]; simp only [zeroH]
            have : max 0 n = n := by omega
            rw [this, c]
            simp
      have hget : getK (astep (countsL l) m f) r = some (ostep l r h f) := by
        unfold astep
        rw [getK_put, if_pos c.symm, hst]
      refine ih _ _ ?_ ?_ ?_ ?_ (Or.inr hget) (Or.inl (by rw [hget]; exact Option.some_ne_none _))
      · unfold ostep; rw [if_pos c]
        cases hbf : best l f with
        | none => exact w0
        | some n =>
          have hn := hb f n hbf
          simp only
          split <;> omega
      · unfold ostep; rw [if_pos c]
        cases hbf : best l f with
        | none => exact f0
        | some n => simp only; omega
      · unfold ostep; rw [if_pos c]
        cases hbf : best l f with
        | none => exact hw
        | some n => simp only; intro h; omega
      · unfold ostep; rw [if_pos c]
        cases hbf : best l f with
        | none => exact hrl
        | some n => exact hrl
    · have ho : ostep l r h f = h := if_neg c
      have hget : getK (astep (countsL l) m f) r = getK m r := by
        unfold astep
        rw [getK_put, if_neg (fun e => c e.symm)]
      rw [ho]
      refine ih _ h w0 f0 hw hrl (by rw [hget]; exact h1) ?_
      rw [hget]
      rcases h2 with h2 | ⟨g, hg, h4⟩
      · exact Or.inl h2
      · rcases List.mem_cons.1 hg with rfl | hg
        · exact absurd h4 c
        · exact Or.inr ⟨g, hg, h4⟩
theorem assessL_ref (l : List Sg) (hl : ∀ s ∈ l, 0 ≤ s.corr) (fs : List Fr) : assessL l fs = (reelsL (distL fs)).map (oneL l (distL fs)) := by
  have e : lostB ((assessM (countsL l) (distL fs)).map (·.1)) = reelsL (distL fs) := by
    refine sorted_unique _ _ (lost_lt _) (reelsL_spec _).1 fun x => ?_
    rw [lost_mem, keys_fold, (reelsL_spec _).2.1]
  unfold assessL
  rw [e]
  refine List.map_congr_left fun r hr => ?_
  exact entry_eq l hl _ r (((reelsL_spec _).2.1 r).1 hr)
end Go.Proofs.Ytafididfgljfcaa
