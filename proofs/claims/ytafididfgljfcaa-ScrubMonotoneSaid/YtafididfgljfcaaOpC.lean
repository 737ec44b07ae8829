/-
  The room of a slice that comes in; the front part of a slice of structs.
-/
import Derived.Test.YtafididfgljfcaaOpS
namespace Go.Proofs.Ytafididfgljfcaa
open Go.ChangeShapes Go.WideShapes Go.ChangeAt Go.RowKit Go.Deep
set_option linter.unusedVariables false
def Roomy (v : Value) : Prop := ∃ a len cap, v = .slice a len cap ∧ len ≤ cap
theorem open_cap {H : Type} {enc : TypeId × Value → H} {P : Program} {w : World} {base : Nat} {spare : Nat → Bool} {held : Bool} {r : Reach} {b0 : Nat} {t e : TypeId} {v : Value} {d : DataW H} {p : List MemPlace} (ht : P.underlying t = some (.slice e))
    (hv : Value.okWide P w r b0 t v) (h : DataW.Trod enc P w base spare held t v d p) : Roomy v := by
  obtain ⟨a0, len, cap, rfl⟩ := okWide_slice ht hv
  obtain ⟨fuel, hf⟩ := h
  rcases open_slice ht (by simpa [Value.cells] using hf) with ⟨hcs, _⟩ | ⟨a, len', cap', m, n', D, Pl, hcs, _, hl, hm, hmm, _, hi⟩
  · simp at hcs
    obtain ⟨rfl, rfl, rfl⟩ := hcs
    exact ⟨_, _, _, rfl, Nat.le_refl _⟩
  · simp at hcs
    obtain ⟨rfl, rfl, rfl⟩ := hcs
    exact ⟨_, _, _, rfl, hl⟩
theorem IsS.front {α : Type} {n : Nat} {cs : α → List Value} {w : World} {a : Option Addr} {len cap : Nat} {l : List α} (h : IsS n cs w (.slice a len cap) l) (k : Nat) (hk : k ≤ l.length) : IsS n cs w (.slice a k cap) (l.take k) := by
  obtain ⟨a1, off, cap1, e1, e2, e3⟩ := h
  simp only [Value.slice.injEq] at e1
  obtain ⟨rfl, _, rfl⟩ := e1
  refine ⟨a, off, cap, ?_, by rw [List.length_take]; omega, fun i x hx => e3 i x ?_⟩
  · rw [List.length_take, Nat.min_eq_left hk]
  · have hi : i < (l.take k).length := (List.getElem?_eq_some_iff.1 hx).1
    rw [List.length_take] at hi
    rw [List.getElem?_take, if_pos (by omega)] at hx
    exact hx
theorem wpList_front {P : Program} {w : World} {ops : Array Oper} {rest : List Oper} {o : Oper} {a : Act} {Q : Exit → Act → World → Prop} (hg : o.guard = none) (t e : TypeId) (x y : Operand) (ho : o.op = .slice t x none (some y) none) (ht : P.underlying t = some (.slice e)) (i : TypeInfo) (hi : P.info? e = some i)
    (ad : Option Addr) (len cap k : Nat) (hx : a.eval x = .slice ad len cap) (hy : a.eval y = .int .i64 k) (hk : k ≤ cap)
    (h : wpList P ops Q rest (a.put o.dst (.slice ad k cap)) w) : wpList P ops Q (o :: rest) a w := by
  refine wpList_plain hg fun K' hK' => ?_
  have he : P.elem t = e := by simp [Program.elem, ht]
  have hrun := run_slice_h (P := P) (w := w) t ad len cap (by rw [he]; exact ht) .i64 (k : Int) (by omega) (by omega)
  rw [he, run_sizeOf w hi] at hrun
  have hat := run_sliceAt_slice (P := P) (w := w) t (.slice ad len cap) none (some (.int .i64 (k : Int))) none (by rw [he]; exact ht)
  have e2 : sliced ad 0 ((k : Int)).toNat cap (P.cellsOf e) = .slice ad k cap := by
    unfold sliced
    simp [Addr.add]
  simp only [Result.andThen, e2] at hrun
  unfold Oper.wp execOp
  simp only [ho, hx, hy, Option.map_none, Option.map_some, Sem.run_bind, hat, hrun, Result.andThen]
  exact hK' _ _ h
end Go.Proofs.Ytafididfgljfcaa
