/-
  What Assess computes.
-/
import Derived.Test.YtafididfgljfcaaFld
import Derived.Test.YtafididfgljfcaaLost
namespace Go.Proofs.Ytafididfgljfcaa
open Go.RowKit
set_option linter.unusedVariables false

def zeroH : He := ⟨0, 0, 0, 0, 0⟩
def hstep (found : List (Fr × Int)) (h : He) (f : Fr) : He :=
  match getK found f with
  | some n => ⟨f.reel, h.found + 1, h.missing, max h.worst n, h.corr + n⟩
  | none => ⟨f.reel, h.found, h.missing + 1, h.worst, h.corr⟩
def astep (found : List (Fr × Int)) (m : List (Int × He)) (f : Fr) : List (Int × He) := putK m f.reel (hstep found ((getK m f.reel).getD zeroH) f)
def assessM (found : List (Fr × Int)) (fs : List Fr) : List (Int × He) := fs.foldl (astep found) []
def assessL (l : List Sg) (fs : List Fr) : List He :=
  (lostB ((assessM (countsL l) (distL fs)).map (·.1))).map fun r => (getK (assessM (countsL l) (distL fs)) r).getD zeroH
theorem assessM_snoc (found : List (Fr × Int)) (l : List Fr) (k : Nat) (s : Fr) (h : l[k]? = some s) : assessM found (l.take (k + 1)) = astep found (assessM found (l.take k)) s := by
  have : l.take (k + 1) = l.take k ++ [s] := by rw [List.take_add_one, h]; rfl
  rw [this]; unfold assessM; rw [List.foldl_append]; rfl
theorem assessM_len (found : List (Fr × Int)) (l : List Fr) : (assessM found l).length ≤ l.length := by
  suffices h : ∀ m : List (Int × He), (l.foldl (astep found) m).length ≤ m.length + l.length from by have := h []; simp only [List.length_nil, Nat.zero_add] at this; exact this
  induction l with
  | nil => intro m; exact Nat.le_refl _
  | cons s l ih =>
    intro m
    refine Nat.le_trans (ih _) ?_
    have : (astep found m s).length ≤ m.length + 1 := putK_len _ _ _
    simp only [List.length_cons]; omega
structure HOk (k : Nat) (h : He) : Prop where
  f0 : 0 ≤ h.found
  f1 : h.found ≤ k
  m0 : 0 ≤ h.missing
  m1 : h.missing ≤ k
  w0 : 0 ≤ h.worst
  w1 : h.worst ≤ 52
  c0 : 0 ≤ h.corr
  c1 : h.corr ≤ 52 * k
theorem HOk.zero (k : Nat) : HOk k zeroH := ⟨by simp [zeroH], by simp [zeroH], by simp [zeroH], by simp [zeroH], by simp [zeroH], by simp [zeroH], by simp [zeroH], by simp [zeroH]; omega⟩
def FOk (found : List (Fr × Int)) : Prop := ∀ f n, getK found f = some n → 0 ≤ n ∧ n ≤ 52
theorem hstep_ok {found : List (Fr × Int)} (hF : FOk found) {k : Nat} {h : He} (hk : HOk k h) (f : Fr) : HOk (k + 1) (hstep found h f) := by
  obtain ⟨a1, a2, a3, a4, a5, a6, a7, a8⟩ := hk
  unfold hstep
  cases hg : getK found f with
  | none => exact ⟨a1, by simp only; omega, by simp only; omega, by simp only; omega, a5, a6, a7, by simp only; omega⟩
  | some n =>
    obtain ⟨h1, h2⟩ := hF f n hg
    exact ⟨by simp only; omega, by simp only; omega, a3, by simp only; omega, by simp only; omega, by simp only; omega, by simp only; omega, by simp only; omega⟩
theorem assessM_ok {found : List (Fr × Int)} (hF : FOk found) (l : List Fr) (r : Int) : HOk l.length ((getK (assessM found l) r).getD zeroH) := by
  suffices H : ∀ (n : Nat) (l : List Fr) (r : Int), l.length = n → HOk n ((getK (assessM found l) r).getD zeroH) from H _ l r rfl
  intro n
  induction n with
  | zero => intro l r h; rw [List.eq_nil_of_length_eq_zero h]; exact HOk.zero 0
  | succ n ih =>
    intro l r h
    obtain ⟨s, hs⟩ : ∃ s, l[n]? = some s := ⟨_, List.getElem?_eq_getElem (by omega)⟩
    have e1 := assessM_snoc found l n s hs
    rw [List.take_of_length_le (by omega)] at e1
    rw [e1]
    unfold astep
    rw [getK_put]
    have hih := ih (l.take n) r (by rw [List.length_take]; omega)
    by_cases c : r = s.reel
    · rw [if_pos c]
      exact hstep_ok hF (ih (l.take n) s.reel (by rw [List.length_take]; omega)) s
    · rw [if_neg c]
      obtain ⟨a1, a2, a3, a4, a5, a6, a7, a8⟩ := hih
      exact ⟨a1, by omega, a3, by omega, a5, a6, a7, by omega⟩
theorem best_mem (l : List Sg) (f : Fr) (n : Int) (h : best l f = some n) : ∃ s ∈ l, s.frame = f ∧ s.corr = n := by
  suffices H : ∀ (l : List Sg) (b : Option Int), l.foldl (bstep f) b = some n → b = some n ∨ ∃ s ∈ l, s.frame = f ∧ s.corr = n from by
    rcases H l none h with h | h
    · cases h
    · exact h
  intro l
  induction l with
  | nil => intro b h; exact Or.inl h
  | cons s l ih =>
    intro b h
    rcases ih _ h with h1 | ⟨t, ht, h2⟩
    · unfold bstep at h1
      by_cases c : s.frame = f
      · rw [if_pos c] at h1
        cases b with
        | none => exact Or.inr ⟨s, List.mem_cons_self, c, Option.some.inj h1⟩
        | some m =>
          simp only at h1
          by_cases d : s.corr < m
          · rw [if_pos d] at h1; exact Or.inr ⟨s, List.mem_cons_self, c, Option.some.inj h1⟩
          · rw [if_neg d] at h1; exact Or.inl h1
      · rw [if_neg c] at h1; exact Or.inl h1
    · exact Or.inr ⟨t, List.mem_cons_of_mem _ ht, h2⟩
theorem fok_counts {l : List Sg} (h : ∀ s ∈ l, 0 ≤ s.corr ∧ s.corr ≤ 52) : FOk (countsL l) := by
  intro f n hn
  rw [getK_counts] at hn
  obtain ⟨s, hs, _, rfl⟩ := best_mem l f n hn
  exact h s hs

/-! Slices of structs under a loop that writes a map. -/
def RowsAt {α : Type} (n : Nat) (cs : α → List Value) (w : World) (a : Option Addr) (off : Nat) (l : List α) : Prop :=
  ∀ i x, l[i]? = some x → ∃ b, a = some ⟨b, off, none⟩ ∧ b < w.heap.size ∧ w.rangeAt b (off + i * n) (cs x)
section
variable {α : Type} {n : Nat} {cs : α → List Value} {w w' : World} {a : Option Addr} {off : Nat} {l : List α}
theorem RowsAt.kept (h : RowsAt n cs w a off l) (hb : Below w.heap.size w w') : RowsAt n cs w' a off l := fun i x hx => by
  obtain ⟨b, e1, e2, e3⟩ := h i x hx
  exact ⟨b, e1, Nat.lt_of_lt_of_le e2 hb.size, rangeAt_kept e3 hb e2⟩
theorem RowsAt.alloc (h : RowsAt n cs w a off l) (o : Obj) : RowsAt n cs (w.alloc o) a off l := fun i x hx => by
  obtain ⟨b, e1, e2, e3⟩ := h i x hx
  exact ⟨b, e1, by simp; omega, World.rangeAt_alloc e3 o⟩
theorem RowsAt.map {κ β : Type} {P : Program} {kt : TypeId} {ek : κ → Value} {ev : β → Value} {M : Nat} {m : List (κ × β)} (h : RowsAt n cs w a off l) (hcs : ∀ x, (cs x).length = n) (hn : 0 < n) (hm : MapIs w P kt ek ev M m) (hg : w.grownBy w' (some M)) : RowsAt n cs w' a off l := fun i x hx => by
  obtain ⟨b, e1, e2, e3⟩ := h i x hx
  refine ⟨b, e1, Nat.lt_of_lt_of_le e2 hg.size, rangeAt_grown e3 hg e2 fun e => ?_⟩
  have e4 : b = M := Option.some.inj e
  subst e4
  have h0 : (cs x)[0]? = some ((cs x)[0]'(by rw [hcs]; exact hn)) := List.getElem?_eq_getElem _
  have := e3 0 _ h0
  obtain ⟨es, clock, hb, _⟩ := hm
  simp [World.cell?, hb] at this
end
end Go.Proofs.Ytafididfgljfcaa
