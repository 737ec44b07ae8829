/-
  Rows of integers in memory: what a walk asks of them, append, and what a callee hands back.
-/
import Derived.Test.YtafididfgljfcaaSl
import Derived.Lib.SmallJoins
namespace Go.Proofs.Ytafididfgljfcaa
open Go.RowKit
set_option linter.unusedVariables false

abbrev i64v (n : Int) : Value := .int .i64 n
/-- The block g begins with the numbers l, none of them frozen. -/
def CellsI (w : World) (g : Nat) (l : List Int) : Prop :=
  g < w.heap.size ∧ ∀ i, i < l.length → w.cell? ⟨g, i, none⟩ = some (.int .i64 (l[i]?.getD 0)) ∧ w.frozen? ⟨g, i, none⟩ = false
theorem CellsI.at {w : World} {g : Nat} {l : List Int} (h : CellsI w g l) (i : Nat) (hi : i < l.length) : w.cell? ⟨g, i, none⟩ = some (.int .i64 (l[i]?.getD 0)) := (h.2 i hi).1
theorem CellsI.free {w : World} {g : Nat} {l : List Int} (h : CellsI w g l) (i : Nat) (hi : i < l.length) : w.frozen? ⟨g, i, none⟩ = false := (h.2 i hi).2
theorem CellsI.below {B : Nat} {w w' : World} {g : Nat} {l : List Int} (h : CellsI w g l) (hb : Below B w w') (hg : g < B) : CellsI w' g l :=
  ⟨Nat.lt_of_lt_of_le h.1 hb.size, fun i hi => ⟨(hb.cell (p := ⟨g, i, none⟩) hg).trans (h.at i hi), (hb.frozen (p := ⟨g, i, none⟩) hg).trans (h.free i hi)⟩⟩
theorem CellsI.kept {w w' : World} {g : Nat} {l : List Int} (h : CellsI w g l) (hb : Below w.heap.size w w') : CellsI w' g l := h.below hb h.1
theorem CellsI.same {w w' : World} {g : Nat} {l : List Int} (h : CellsI w g l) (hz : w.heap.size ≤ w'.heap.size) (e : w'.heap[g]? = w.heap[g]?) : CellsI w' g l :=
  ⟨Nat.lt_of_lt_of_le h.1 hz, fun i hi => ⟨(World.cell?_of_block (w := w) e).trans (h.at i hi), (World.frozen?_of_block (w := w) e).trans (h.free i hi)⟩⟩
theorem CellsI.drewN {w : World} {g : Nat} {l : List Int} (h : CellsI w g l) (n : Nat) : CellsI (w.drewN n) g l := h
theorem CellsI.drew {w : World} {g : Nat} {l : List Int} (h : CellsI w g l) : CellsI w.drew g l := h
theorem CellsI.other {w : World} {g : Nat} {l : List Int} (h : CellsI w g l) (a : Addr) (ha : a.block ≠ g) (v : Value) : CellsI (w.setCell a v) g l :=
  h.same (by simp [World.setCell]) (Below.heap_setCell w a v g (fun e => ha e.symm))
theorem CellsI.alloc {w : World} {g : Nat} {l : List Int} (h : CellsI w g l) (o : Obj) : CellsI (w.alloc o) g l :=
  h.same (by simp) (Below.heap_alloc w o g h.1)
theorem CellsI.take {w : World} {g : Nat} {l : List Int} (h : CellsI w g l) (n : Nat) : CellsI w g (l.take n) := by
  refine ⟨h.1, fun i hi => ?_⟩
  rw [List.length_take] at hi
  rw [List.getElem?_take, if_pos (by omega)]
  exact h.2 i (by omega)
theorem CellsI.fore {w : World} {g : Nat} {l m : List Int} (h : CellsI w g (l ++ m)) : CellsI w g l := by
  have := h.take l.length
  simpa using this
theorem cellsI_alloc (w : World) (L : List Int) (e : TypeId) : CellsI (w.alloc (.cells ((L.map i64v).toArray) e)) w.heap.size L := by
  refine ⟨by simp, fun i hi => ⟨?_, by rw [World.frozen?_alloc_mark, decide_eq_false (by omega : ¬ i < 0), Bool.and_false]⟩⟩
  rw [World.cell?_alloc_mark]
  simp only [List.getElem?_toArray, List.getElem?_map]
  rw [List.getElem?_eq_getElem hi]; rfl
theorem cellsI_one (w : World) (n : Int) (e : TypeId) : CellsI (w.alloc (.cells #[.int .i64 n] e)) w.heap.size [n] := cellsI_alloc w [n] e

/-- The slice v reads as the numbers l; if there are any, they lie at the head of a block from B on and may be written. -/
def SlI (w : World) (B : Nat) (v : Value) (l : List Int) : Prop :=
  (∃ a cap, v = .slice a 0 cap ∧ l = []) ∨ ∃ g cap, v = .slice (some ⟨g, 0, none⟩) l.length cap ∧ l ≠ [] ∧ l.length ≤ cap ∧ cap ≤ maxLen ∧ B ≤ g ∧ CellsI w g l
theorem SlI.kept {w w' : World} {B : Nat} {v : Value} {l : List Int} (h : SlI w B v l) (hb : Below w.heap.size w w') : SlI w' B v l := by
  rcases h with h | ⟨g, cap, h1, h2, h3, h4, h5, h6⟩
  · exact Or.inl h
  · exact Or.inr ⟨g, cap, h1, h2, h3, h4, h5, h6.kept hb⟩
theorem SlI.mono {w : World} {B B' : Nat} {v : Value} {l : List Int} (h : SlI w B v l) (hB : B' ≤ B) : SlI w B' v l := by
  rcases h with h | ⟨g, cap, h1, h2, h3, h4, h5, h6⟩
  · exact Or.inl h
  · exact Or.inr ⟨g, cap, h1, h2, h3, h4, by omega, h6⟩
theorem SlI.of_cells {w : World} {B g cap : Nat} {l : List Int} (hc : CellsI w g l) (hB : B ≤ g) (h1 : l.length ≤ cap) (h2 : cap ≤ maxLen) (n : Nat) (hn : l.length = n) : SlI w B (.slice (some ⟨g, 0, none⟩) n cap) l := by
  subst hn
  by_cases h0 : l = []
  · subst h0; exact Or.inl ⟨_, _, rfl, rfl⟩
  · exact Or.inr ⟨g, cap, rfl, h0, h1, h2, hB, hc⟩
theorem owns_cellsI {w : World} {base g n cap : Nat} {e : TypeId} {l : List Int} (h : w.ownsRow base e 1 (.slice (some ⟨g, 0, none⟩) n cap) n (l.map i64v)) (hn : l.length = n) (hlt : g < w.heap.size) : CellsI w g l := by
  refine ⟨hlt, fun i hi => ⟨?_, h.frozenAt i⟩⟩
  rw [h.cellAt i (by omega), List.getElem?_map, List.getElem?_eq_getElem hi]; rfl
theorem slI_of_owns {w : World} {base n : Nat} {e : TypeId} {v : Value} {l : List Int} (h : w.ownsRow base e 1 v n (l.map i64v)) (hn : l.length = n) : SlI w base v l := by
  subst hn
  have h' := h
  rcases h.2 with ⟨hv, h0⟩ | ⟨g, cap, cur, hv, hb, hg, hnc, hcm, hcs, htake⟩
  · exact Or.inl ⟨none, 0, hv, List.eq_nil_of_length_eq_zero h0⟩
  · subst hv
    have hlt : g < w.heap.size := (Array.getElem?_eq_some_iff.1 hg).1
    exact SlI.of_cells (owns_cellsI h' rfl hlt) hb hnc hcm _ rfl

/-- 'append(x, y...)' for a slice x of the call's own that owns its numbers by 'ownsRow', and numbers y that lie at the head of a block. -/
theorem wpList_append_ints {P : Program} {w : World} {ops : Array Oper} {rest : List Oper} {o : Oper} {a : Act} {Q : Exit → Act → World → Prop} (hgd : o.guard = none) (s x : Operand) (t e : TypeId)
    (ho : o.op = .call { callee := .builtin .append, args := #[s, x], argTypes := #[t, t] }) (ht : P.underlying t = some (.slice e)) (h2 : (P.info? e).map (fun i => (i.zero, i.size, i.bytes)) = some (some (.int .i64 0), 1, 8))
    (base : Nat) (v : Value) (n : Nat) (L : List Int) (hs : a.eval s = v) (hown : w.ownsRow base e 1 v n (L.map i64v)) (hn : L.length = n) (hbase : base ≤ w.heap.size)
    (g m cap : Nat) (l : List Int) (hx : a.eval x = .slice (some ⟨g, 0, none⟩) m cap) (hm : l.length = m) (hl : ∀ i, i < l.length → w.cell? ⟨g, i, none⟩ = some (.int .i64 (l[i]?.getD 0))) (hb : n + m ≤ 100000000)
    (h : ∀ v' w', w'.ownsRow base e 1 v' (n + m) ((L ++ l).map i64v) → w.grownBy w' v.ownBlock → wpList P ops Q rest (a.put o.dst v') w') : wpList P ops Q (o :: rest) a w := by
  obtain ⟨i, hi, hz0, hz1, hz2⟩ := info_parts h2
  subst hm
  refine wpList_append_own w hgd s x t ho base e i (.int .i64 0) 1 8 ht hi hz0 hz1 hz2 rfl (by decide) v n (L.map i64v) hs hown ⟨g, 0, none⟩ l.length cap (l.map i64v) hx (by simp) ?_ ?_ (by unfold maxLen; omega) (by omega) hbase ?_
  · intro j u hj
    rw [List.getElem?_map] at hj
    obtain ⟨b, hb1, hb2⟩ := Option.map_eq_some_iff.1 hj
    have hjl : j < l.length := (List.getElem?_eq_some_iff.1 hb1).1
    have e1 : (⟨g, 0, none⟩ : Addr).add j = ⟨g, j, none⟩ := by unfold Addr.add; split <;> simp_all
    rw [e1, hl j hjl, hb1, ← hb2]; rfl
  · intro u hu
    obtain ⟨b, _, hb2⟩ := List.mem_map.1 hu
    rw [← hb2]; rfl
  · intro v' w' h1 h2 _
    refine h v' w' ?_ h2
    rw [List.map_append]; exact h1
theorem below_grown {w w' : World} {base B n : Nat} {e : TypeId} {v : Value} {cs : List Value} (hown : w.ownsRow base e 1 v n cs) (hg : w.grownBy w' v.ownBlock) (hB : B ≤ w.heap.size) (hb : B ≤ base) : Below B w w' := by
  refine (Below.refl B w).grown hg hB fun k e => ?_
  rcases hown.2 with ⟨hv, _⟩ | ⟨g, cap, cur, hv, hgb, _⟩
  · subst hv; cases e
  · subst hv; cases e; show B ≤ g; omega
theorem bdN {B : Nat} {a w : World} (h : Below B a w) (n : Nat) : Below B a (w.drewN n) := ⟨h.os, h.tape, h.output, h.size, h.block⟩
theorem owns_drewN {w : World} {base n size : Nat} {e : TypeId} {v : Value} {cs : List Value} (h : w.ownsRow base e size v n cs) (q : Nat) : (w.drewN q).ownsRow base e size v n cs := h
theorem Try.infoI64 : (Try.prog.info? 3).map (fun i => (i.zero, i.size, i.bytes)) = some (some (.int .i64 0), 1, 8) := by kernel_rfl
end Go.Proofs.Ytafididfgljfcaa
