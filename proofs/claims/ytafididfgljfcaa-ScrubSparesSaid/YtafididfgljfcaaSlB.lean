/-
  A slice literal of structs.
-/
import Derived.Test.YtafididfgljfcaaSlS
import Derived.Great.BuildSlice
namespace Go.Proofs.Ytafididfgljfcaa
open Go.RowKit
set_option linter.unusedVariables false

theorem run_sliceS {α : Type} {P : Program} (w : World) (t e : TypeId) (n : Nat) (parts : Array (Nat × Value)) (ht : P.underlying t = some (.slice e)) (z : Value) (size bytes : Nat) (h2 : (P.info? e).map (fun i => (i.zero, i.size, i.bytes)) = some (some z, size, bytes)) (hs0 : 0 < size) (hsm : size ≤ 1000)
    (cs : α → List Value) (hcs : ∀ x, (cs x).length = size) (L : List α) (hn : L.length = n) (hn0 : 0 < n) (hn1 : n ≤ 1000)
    (hp : parts.toList = ((L.map fun x => Value.agg (cs x).toArray).zipIdx 0).map fun x => (x.2, x.1)) :
    (Instr.buildSlice t n parts).run P w = .ok (.slice (some ⟨w.heap.size, 0, none⟩) n n) (w.alloc (.cells (L.flatMap cs).toArray e)) := by
  obtain ⟨i, hi, hz0, hz1, hz2⟩ := info_parts h2
  subst hn hz1
  refine run_buildSlice w t e L.length parts _ i z ht hi hz0 ?_ ?_ ?_
  · have : L.length * i.size ≤ 1000 * 1000 := Nat.mul_le_mul hn1 hsm
    omega
  · have : 0 < L.length * i.size := Nat.mul_pos hn0 hs0
    omega
  · rw [hp]
    have hw := Great.fill_whole hs0 (L.map fun x => Value.agg (cs x).toArray) ((Array.range (L.length * i.size)).map (z.cells[· % z.cells.size]!)) (by
      intro v hv
      obtain ⟨x, _, rfl⟩ := List.mem_map.1 hv
      show (cs x).toArray.size = _
      rw [List.size_toArray, hcs]) (by simp)
    rw [hw]
    congr 1
    rw [List.flatMap_map]
    rfl
theorem wpList_sliceS {α : Type} {P : Program} {w : World} {ops : Array Oper} {rest : List Oper} {o : Oper} {a : Act} {Q : Exit → Act → World → Prop} (hg : o.guard = none) (t e : TypeId) (n : Nat) (parts : Array (Nat × Operand)) (ho : o.op = .buildSlice t n parts) (ht : P.underlying t = some (.slice e)) (z : Value) (size bytes : Nat) (h2 : (P.info? e).map (fun i => (i.zero, i.size, i.bytes)) = some (some z, size, bytes)) (hs0 : 0 < size) (hsm : size ≤ 1000)
    (cs : α → List Value) (hcs : ∀ x, (cs x).length = size) (L : List α) (hn : L.length = n) (hn0 : 0 < n) (hn1 : n ≤ 1000)
    (hp : parts.toList.map (fun p => (p.1, a.eval p.2)) = ((L.map fun x => Value.agg (cs x).toArray).zipIdx 0).map fun x => (x.2, x.1))
    (h : wpList P ops Q rest (a.put o.dst (.slice (some ⟨w.heap.size, 0, none⟩) n n)) (w.alloc (.cells (L.flatMap cs).toArray e))) : wpList P ops Q (o :: rest) a w := by
  have hp' : (parts.map fun (i, x) => (i, a.eval x)).toList = ((L.map fun x => Value.agg (cs x).toArray).zipIdx 0).map fun x => (x.2, x.1) := by rw [Array.toList_map]; exact hp
  refine wpList_plain hg fun _ hK => ?_
  unfold Oper.wp execOp
  simp only [ho, Sem.run_bind, run_sliceS w t e n _ ht z size bytes h2 hs0 hsm cs hcs L hn hn0 hn1 hp', Result.andThen_ok]
  exact hK _ _ h
/-- One element. -/
theorem wpList_slice1 {α : Type} {P : Program} {w : World} {ops : Array Oper} {rest : List Oper} {o : Oper} {a : Act} {Q : Exit → Act → World → Prop} (hg : o.guard = none) (t e : TypeId) (x : Operand) (ho : o.op = .buildSlice t 1 #[(0, x)]) (ht : P.underlying t = some (.slice e)) (z : Value) (size bytes : Nat) (h2 : (P.info? e).map (fun i => (i.zero, i.size, i.bytes)) = some (some z, size, bytes)) (hs0 : 0 < size) (hsm : size ≤ 1000)
    (cs : α → List Value) (hcs : ∀ x, (cs x).length = size) (y : α) (hx : a.eval x = .agg (cs y).toArray)
    (h : wpList P ops Q rest (a.put o.dst (.slice (some ⟨w.heap.size, 0, none⟩) 1 1)) (w.alloc (.cells (cs y).toArray e))) : wpList P ops Q (o :: rest) a w := by
  refine wpList_sliceS hg t e 1 _ ho ht z size bytes h2 hs0 hsm cs hcs [y] rfl (by omega) (by omega) ?_ ?_
  · simp [hx]
  · have e : [y].flatMap cs = cs y := by simp
    rw [e]; exact h
theorem rangeAt_grown {w w' : World} {b o : Nat} {cs : List Value} {row : Option Nat} (h : w.rangeAt b o cs) (hg : w.grownBy w' row) (hlt : b < w.heap.size) (hne : some b ≠ row) : w'.rangeAt b o cs := fun j v hv =>
  (World.cell?_of_block (hg.block b hlt hne)).trans (h j v hv)
theorem owns_new {w : World} {base n size : Nat} {e : TypeId} {v : Value} {cs : List Value} {M : Nat} (h : w.ownsRow base e size v n cs) (hM : w.heap.size ≤ M) : some M ≠ v.ownBlock := by
  rcases h.2 with ⟨hv, _⟩ | ⟨g, cap, cur, hv, hgb, hg, _⟩
  · subst hv; exact fun c => by cases c
  · subst hv
    have := (Array.getElem?_eq_some_iff.1 hg).1
    intro e
    have e2 : M = g := Option.some.inj e
    omega
end Go.Proofs.Ytafididfgljfcaa
