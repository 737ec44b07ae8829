/-
  Sightings and conditions as plain data; slices of structs; a struct read, and laid into a new variable.
-/
import Derived.Test.YtafididfgljfcaaFr
import Derived.Test.YtafididfgljfcaaInts
import Derived.Deep.WholeRow
namespace Go.Proofs.Ytafididfgljfcaa
open Go.RowKit
set_option linter.unusedVariables false

structure Sg where
  piece : Int
  pos : Int
  frame : Fr
  dist : Int
  unread : Int
  corr : Int
deriving DecidableEq
def Sg.cs (s : Sg) : List Value := [iv s.piece, iv s.pos, iv s.frame.kind, iv s.frame.reel, iv s.frame.session, iv s.frame.index, iv s.frame.length, iv s.frame.data, iv s.frame.spare, .int .u32 s.frame.archive, .string s.frame.pay, iv s.dist, iv s.unread, iv s.corr]
structure He where
  reel : Int
  found : Int
  missing : Int
  worst : Int
  corr : Int
deriving DecidableEq
def He.cs (h : He) : List Value := [iv h.reel, iv h.found, iv h.missing, iv h.worst, iv h.corr]
def He.v (h : He) : Value := .agg h.cs.toArray

/-- A slice of structs of n cells each, that reads as l. -/
def IsS {α : Type} (n : Nat) (cs : α → List Value) (w : World) (v : Value) (l : List α) : Prop :=
  ∃ a off cap, v = .slice a l.length cap ∧ l.length ≤ maxLen ∧ ∀ i x, l[i]? = some x → ∃ b, a = some ⟨b, off, none⟩ ∧ b < w.heap.size ∧ w.rangeAt b (off + i * n) (cs x)
theorem rangeAt_kept {w w' : World} {b o B : Nat} {cs : List Value} (h : w.rangeAt b o cs) (hb : Below B w w') (hlt : b < B) : w'.rangeAt b o cs := fun j v hv => (hb.cell (p := ⟨b, o + j, none⟩) hlt).trans (h j v hv)
theorem IsS.kept {α : Type} {n : Nat} {cs : α → List Value} {w w' : World} {v : Value} {l : List α} (h : IsS n cs w v l) (hb : Below w.heap.size w w') : IsS n cs w' v l := by
  obtain ⟨a, off, cap, h1, h2, h3⟩ := h
  refine ⟨a, off, cap, h1, h2, fun i x hx => ?_⟩
  obtain ⟨b, e1, e2, e3⟩ := h3 i x hx
  exact ⟨b, e1, Nat.lt_of_lt_of_le e2 hb.size, rangeAt_kept e3 hb e2⟩
theorem IsS.nil {α : Type} {n : Nat} {cs : α → List Value} {w : World} : IsS n cs w (.slice none 0 0) ([] : List α) := ⟨none, 0, 0, rfl, Nat.zero_le _, fun i x hx => by simp at hx⟩
theorem rangeAt_drop {w : World} {b o : Nat} {cs : List Value} (h : w.rangeAt b o cs) (m : Nat) : w.rangeAt b (o + m) (cs.drop m) := fun j v hv => by
  rw [List.getElem?_drop] at hv
  have := h _ _ hv
  rwa [← Nat.add_assoc] at this
theorem rangeAt_take {w : World} {b o : Nat} {cs : List Value} (h : w.rangeAt b o cs) (m : Nat) : w.rangeAt b o (cs.take m) := fun j v hv => by
  rw [List.getElem?_take] at hv
  split at hv
  · exact h j v hv
  · cases hv
theorem box_range (w : World) (cs : List Value) (t : TypeId) : (w.alloc (.cells cs.toArray t)).rangeAt w.heap.size 0 cs := fun j v hv => by
  rw [World.cell?_alloc_mark]
  simpa using hv
theorem box_cell (w : World) (cs : List Value) (t : TypeId) (j : Nat) (v : Value) (h : cs[j]? = some v) : (w.alloc (.cells cs.toArray t)).cell? ⟨w.heap.size, j, none⟩ = some v := by
  have := box_range w cs t j v h
  rwa [Nat.zero_add] at this
theorem box_frozen (w : World) (cs : Array Value) (t : TypeId) (j : Nat) : (w.alloc (.cells cs t)).frozen? ⟨w.heap.size, j, none⟩ = false := by
  rw [World.frozen?_alloc_mark, decide_eq_false (by omega : ¬ j < 0), Bool.and_false]

theorem wpList_store_new {P : Program} {ops : Array Oper} {rest : List Oper} {o : Oper} {a : Act} {w : World} {Q : Exit → Act → World → Prop} (hgd : o.guard = none) (ty : TypeId) (x y : Operand) (ho : o.op = .store ty x y)
    (w0 : World) (old cells : Array Value) (hw : w = w0.alloc (.cells old ty)) (hx : a.eval x = .pointer (some ⟨w0.heap.size, 0, none⟩)) (hy : a.eval y = .agg cells) (hi : (P.info? ty).map (·.size) = some cells.size)
    (hold : old.size = cells.size) (h1 : cells.all (·.oneCell') = true) (h : wpList P ops Q rest (a.put o.dst undef) (w0.alloc (.cells cells ty))) : wpList P ops Q (o :: rest) a w := by
  subst hw
  refine wpList_store_row hgd ty x y ho w0.heap.size cells hx hy ty old (heap_alloc_last w0 _) hi hold h1 ?_
  rw [World.setRow_alloc_new]; exact h

theorem Try.size43 : (Try.prog.info? 43).map (·.size) = some 14 := by kernel_rfl
theorem Try.size39 : (Try.prog.info? 39).map (·.size) = some 9 := by kernel_rfl
theorem Try.size31 : (Try.prog.info? 31).map (·.size) = some 5 := by kernel_rfl
theorem Try.size36 : (Try.prog.info? 36).map (·.size) = some 2 := by kernel_rfl
theorem Try.size41 : (Try.prog.info? 41).map (·.size) = some 3 := by kernel_rfl
theorem Sg.one (s : Sg) : s.cs.toArray.all (·.oneCell') = true := all_oneCell_toArray (by intro v hv; simp only [Sg.cs, List.mem_cons, List.not_mem_nil, or_false] at hv; rcases hv with rfl | rfl | rfl | rfl | rfl | rfl | rfl | rfl | rfl | rfl | rfl | rfl | rfl | rfl <;> rfl)
theorem Fr.one (s : Fr) : s.cs.toArray.all (·.oneCell') = true := all_oneCell_toArray (by intro v hv; simp only [Fr.cs, List.mem_cons, List.not_mem_nil, or_false] at hv; rcases hv with rfl | rfl | rfl | rfl | rfl | rfl | rfl | rfl | rfl <;> rfl)
theorem He.one (s : He) : s.cs.toArray.all (·.oneCell') = true := all_oneCell_toArray (by intro v hv; simp only [He.cs, List.mem_cons, List.not_mem_nil, or_false] at hv; rcases hv with rfl | rfl | rfl | rfl | rfl <;> rfl)
theorem Sg.frameAt {w : World} {b o : Nat} {s : Sg} (h : w.rangeAt b o s.cs) : w.rangeAt b (o + 2) s.frame.cs := rangeAt_take (rangeAt_drop h 2) 9

/-! What counts lays down. -/
def cstep (m : List (Fr × Int)) (s : Sg) : List (Fr × Int) :=
  match getK m s.frame with
  | none => putK m s.frame s.corr
  | some n => if s.corr < n then putK m s.frame s.corr else m
def countsL (l : List Sg) : List (Fr × Int) := l.foldl cstep []
def bstep (f : Fr) (b : Option Int) (s : Sg) : Option Int :=
  if s.frame = f then (match b with | none => some s.corr | some n => if s.corr < n then some s.corr else some n) else b
def best (l : List Sg) (f : Fr) : Option Int := l.foldl (bstep f) none
theorem getK_put_ne (m : List (Fr × Int)) (x y : Fr) (v : Int) (h : ¬ x = y) : getK (putK m x v) y = getK m y := by rw [getK_put, if_neg (fun e => h e.symm)]
theorem getK_put_eq (m : List (Fr × Int)) (x : Fr) (v : Int) : getK (putK m x v) x = some v := by rw [getK_put, if_pos rfl]
theorem getK_cstep (m : List (Fr × Int)) (s : Sg) (f : Fr) : getK (cstep m s) f = bstep f (getK m f) s := by
  unfold cstep bstep
  by_cases h : s.frame = f
  · subst h
    rw [if_pos rfl]
    cases hg : getK m s.frame with
    | none => exact getK_put_eq _ _ _
    | some n =>
      simp only
      by_cases c : s.corr < n
      · rw [if_pos c, if_pos c, getK_put_eq]
      · rw [if_neg c, if_neg c, hg]
  · rw [if_neg h]
    cases hg : getK m s.frame with
    | none => exact getK_put_ne _ _ _ _ h
    | some n =>
      simp only
      by_cases c : s.corr < n
      · rw [if_pos c, getK_put_ne _ _ _ _ h]
      · rw [if_neg c]
theorem getK_counts (l : List Sg) (f : Fr) : getK (countsL l) f = best l f := by
  suffices h : ∀ m b, getK m f = b → getK (l.foldl cstep m) f = l.foldl (bstep f) b from h [] none rfl
  induction l with
  | nil => intro m b h; exact h
  | cons s l ih => intro m b h; exact ih _ _ (by rw [getK_cstep, h])
theorem countsL_len (l : List Sg) : (countsL l).length ≤ l.length := by
  suffices h : ∀ m : List (Fr × Int), (l.foldl cstep m).length ≤ m.length + l.length from by have := h []; simp only [List.length_nil, Nat.zero_add] at this; exact this
  induction l with
  | nil => intro m; exact Nat.le_refl _
  | cons s l ih =>
    intro m
    refine Nat.le_trans (ih _) ?_
    have : (cstep m s).length ≤ m.length + 1 := by
      unfold cstep
      split
      · exact putK_len _ _ _
      · split
        · exact putK_len _ _ _
        · omega
    simp only [List.length_cons]; omega
theorem countsL_snoc (l : List Sg) (k : Nat) (s : Sg) (h : l[k]? = some s) : countsL (l.take (k + 1)) = cstep (countsL (l.take k)) s := by
  have : l.take (k + 1) = l.take k ++ [s] := by rw [List.take_add_one, h]; rfl
  rw [this]; unfold countsL; rw [List.foldl_append]; rfl
end Go.Proofs.Ytafididfgljfcaa
