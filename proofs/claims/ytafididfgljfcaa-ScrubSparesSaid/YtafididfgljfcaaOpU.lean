/-
  An array of three uint16 that comes in, opened.
-/
import Derived.Test.YtafididfgljfcaaLawOpen
namespace Go.Proofs.Ytafididfgljfcaa
open Go.ChangeShapes Go.WideShapes Go.ChangeAt Go.RowKit
set_option linter.unusedVariables false
theorem open_u16s3 {H : Type} {enc : TypeId × Value → H} {P : Program} {w : World} {base : Nat} {spare : Nat → Bool} {held : Bool} {r : Reach} {b0 : Nat} {t e : TypeId} {v : Value} {d : DataW H} {p : List MemPlace} (ht : P.underlying t = some (.array 3 e)) (he : P.underlying e = some (.int .u16)) (hce : P.cellsOf e = 1) (hct : P.cellsOf t = 3)
    (hv : Value.okWide P w r b0 t v) (h : DataW.Trod enc P w base spare held t v d p) : ∃ x y z : Int, v = .agg #[.int .u16 x, .int .u16 y, .int .u16 z] ∧ (Lit.int .u16 x).wf = true ∧ (Lit.int .u16 y).wf = true ∧ (Lit.int .u16 z).wf = true := by
  obtain ⟨cs, rfl, hsz⟩ := okWide_array ht hv
  obtain ⟨fuel, hf⟩ := h
  obtain ⟨xs, m, _, _, hl, hxl, hx⟩ := DataW.trod_array ht hf
  have hlen : cs.toList.length = 3 := by rw [Array.length_toList, hsz, hct]
  have hcell : ∀ i, i < 3 → ∃ z : Int, cs.toList[i]? = some (.int .u16 z) ∧ (Lit.int .u16 z).wf = true := by
    intro i hi
    have h1 := hx i hi
    rw [hce, Nat.mul_one] at h1
    have h2 : ((Value.agg cs).cells.toList.drop i).take 1 = [cs.toList[i]'(by omega)] := by
      show ((cs.toList.drop i).take 1) = _
      rw [List.drop_eq_getElem_cons (by omega)]; rfl
    rw [h2, List.getElem?_eq_getElem (by omega)] at h1
    obtain ⟨z, hz, _, hwz⟩ := DataW.trod_int he h1
    simp only [List.cons.injEq, and_true] at hz
    exact ⟨z, by rw [List.getElem?_eq_getElem (by omega), hz], hwz⟩
  obtain ⟨x, hx0, wx⟩ := hcell 0 (by omega)
  obtain ⟨y, hy0, wy⟩ := hcell 1 (by omega)
  obtain ⟨z, hz0, wz⟩ := hcell 2 (by omega)
  refine ⟨x, y, z, ?_, wx, wy, wz⟩
  obtain ⟨l⟩ := cs
  simp only at hlen hx0 hy0 hz0
  match l, hlen with
  | [a, b, c], _ =>
    simp at hx0 hy0 hz0
    subst hx0 hy0 hz0
    rfl
end Go.Proofs.Ytafididfgljfcaa
