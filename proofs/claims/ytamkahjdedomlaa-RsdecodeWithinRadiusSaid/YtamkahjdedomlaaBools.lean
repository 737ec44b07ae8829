/-
  A slice of bools that came in.
-/
import Derived.Test.YtamkahjdedomlaaLawOpen
import Derived.Deep.Grids
namespace Go.Proofs.Ytamkahjdedomlaa
open Go.ChangeShapes Go.WideShapes Go.ChangeAt Go.RowKit
set_option linter.unusedVariables false
section
variable {H : Type} {enc : TypeId × Value → H} {P : Program} {w : World} {base : Nat} {held : Bool}
/-- A slice of bools that came in. -/
def IsBools (w : World) (v : Value) (bs : List Bool) : Prop :=
  ∃ a off cap, v = .slice a bs.length cap ∧ bs.length ≤ maxLen ∧ ∀ i, i < bs.length → ∃ b, a = some ⟨b, off, none⟩ ∧ b < w.heap.size ∧ w.cell? ⟨b, off + i, none⟩ = some (.bool (bs[i]?.getD false))
theorem IsBools.kept {w w' : World} {v : Value} {bs : List Bool} (h : IsBools w v bs) (hb : Below w.heap.size w w') : IsBools w' v bs := by
  obtain ⟨a, off, cap, h1, h2, h3⟩ := h
  refine ⟨a, off, cap, h1, h2, fun i hi => ?_⟩
  obtain ⟨b, e1, e2, e3⟩ := h3 i hi
  exact ⟨b, e1, Nat.lt_of_lt_of_le e2 hb.size, (hb.cell (p := ⟨b, off + i, none⟩) e2).trans e3⟩
theorem IsInts.kept {k : IntKind} {w w' : World} {v : Value} {zs : List Int} (h : IsInts k w v zs) (hb : Below w.heap.size w w') : IsInts k w' v zs := by
  rcases h with h | ⟨b, off, cap, h1, h2, h3, h4, h5, h6, h7⟩
  · exact Or.inl h
  · exact Or.inr ⟨b, off, cap, h1, h2, h3, Nat.lt_of_lt_of_le h4 hb.size, h5, fun i hi => (hb.cell (p := ⟨b, off + i, none⟩) h4).trans (h6 i hi), h7⟩
theorem open_bool_slice {r : Reach} {b0 : Nat} {t e : TypeId} {v : Value} {d : DataW H} {p : List MemPlace} (ht : P.underlying t = some (.slice e)) (he : P.underlying e = some .bool) (hce : P.cellsOf e = 1)
    (hv : Value.okWide P w r b0 t v) (h : DataW.Trod enc P w base (fun _ => true) held t v d p) : ∃ bs : List Bool, IsBools w v bs := by
  obtain ⟨a0, len, cap, rfl⟩ := okWide_slice ht hv
  obtain ⟨fuel, hf⟩ := h
  rcases Deep.open_bools ht he hce (by simpa [Value.cells] using hf) with ⟨hcs, _⟩ | ⟨a, len', cap', B, hcs, _, hl, hm, _, hcell⟩
  · simp at hcs
    obtain ⟨rfl, rfl, rfl⟩ := hcs
    exact ⟨[], none, 0, 0, rfl, by simp, fun i hi => by simp at hi⟩
  · simp at hcs
    obtain ⟨rfl, rfl, rfl⟩ := hcs
    by_cases h0 : len = 0
    · subst h0
      exact ⟨[], some a, 0, cap, rfl, by simp, fun i hi => by simp at hi⟩
    · obtain ⟨b, off, spot⟩ := a
      have hc0 := hcell 0 (by omega)
      have hspot : spot = none := by simpa [Addr.add] using World.cell?_spot hc0
      subst hspot
      have hb : b < w.heap.size := by
        have := World.block_lt_of_cell? w _ hc0
        simpa [Addr.add] using this
      have hlen : ((List.range len).map B).length = len := by simp
      refine ⟨(List.range len).map B, some ⟨b, off, none⟩, off, cap, by rw [hlen], by rw [hlen]; omega, fun i hi => ⟨b, rfl, hb, ?_⟩⟩
      rw [hlen] at hi
      have hc := hcell i (by omega)
      have e1 : (⟨b, off, none⟩ : Addr).add i = ⟨b, off + i, none⟩ := by unfold Addr.add; split <;> simp_all
      rw [e1] at hc
      rw [hc, List.getElem?_map, List.getElem?_range hi]; rfl
/-- A slice that came in is nil or has an address. -/
def NilOk (v : Value) : Prop := v ≠ .slice none 0 0 → ∃ ad n c, v = .slice (some ad) n c
theorem open_nil_ok {r : Reach} {b0 : Nat} {spare : Nat → Bool} {t e : TypeId} {k : IntKind} {v : Value} {d : DataW H} {p : List MemPlace} (ht : P.underlying t = some (.slice e)) (he : P.underlying e = some (.int k)) (hce : P.cellsOf e = 1)
    (hv : Value.okWide P w r b0 t v) (h : DataW.Trod enc P w base spare held t v d p) : NilOk v := by
  obtain ⟨a0, len, cap, rfl⟩ := okWide_slice ht hv
  obtain ⟨fuel, hf⟩ := h
  rcases open_ints ht he hce (by simpa [Value.cells] using hf) with ⟨hcs, _⟩ | ⟨a, len', cap', zs, hcs, _⟩
  · simp at hcs
    obtain ⟨rfl, rfl, rfl⟩ := hcs
    exact fun h => absurd rfl h
  · simp at hcs
    obtain ⟨rfl, rfl, rfl⟩ := hcs
    exact fun _ => ⟨_, _, _, rfl⟩
end
end Go.Proofs.Ytamkahjdedomlaa
