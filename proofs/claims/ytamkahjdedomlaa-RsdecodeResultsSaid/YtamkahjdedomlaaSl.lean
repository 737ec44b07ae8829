/-
  Slices of bytes, nil and empty ones included: what a callee is told and what it hands back; make, append, Clone and Trim.
-/
import Derived.Test.YtamkahjdedomlaaBy
import Derived.Test.YtamkahjdedomlaaRet
import Derived.Test.YtamkahjdedomlaaRows
import Derived.Lib.SmallJoins
namespace Go.Proofs.Ytamkahjdedomlaa
open Go.RowKit
set_option linter.unusedVariables false

/-- The slice v reads as the bytes l; if there are any, they lie at the head of a block from B on and may be written. -/
def Sl (w : World) (B : Nat) (v : Value) (l : List UInt8) : Prop :=
  (∃ a cap, v = .slice a 0 cap ∧ l = []) ∨ ∃ g cap, v = .slice (some ⟨g, 0, none⟩) l.length cap ∧ l ≠ [] ∧ l.length ≤ cap ∧ cap ≤ maxLen ∧ B ≤ g ∧ Cells w g l
theorem Sl.kept {w w' : World} {B : Nat} {v : Value} {l : List UInt8} (h : Sl w B v l) (hb : Below w.heap.size w w') : Sl w' B v l := by
  rcases h with h | ⟨g, cap, h1, h2, h3, h4, h5, h6⟩
  · exact Or.inl h
  · exact Or.inr ⟨g, cap, h1, h2, h3, h4, h5, h6.kept hb⟩
theorem Sl.mono {w : World} {B B' : Nat} {v : Value} {l : List UInt8} (h : Sl w B v l) (hB : B' ≤ B) : Sl w B' v l := by
  rcases h with h | ⟨g, cap, h1, h2, h3, h4, h5, h6⟩
  · exact Or.inl h
  · exact Or.inr ⟨g, cap, h1, h2, h3, h4, by omega, h6⟩
theorem Sl.take {w : World} {B g cap : Nat} {l : List UInt8} (hc : Cells w g l) (hB : B ≤ g) (h1 : l.length ≤ cap) (h2 : cap ≤ maxLen) (n : Nat) (hn : n ≤ l.length) : Sl w B (.slice (some ⟨g, 0, none⟩) n cap) (l.take n) := by
  by_cases h0 : n = 0
  · subst h0; exact Or.inl ⟨_, _, rfl, rfl⟩
  · have hl : (l.take n).length = n := by rw [List.length_take]; omega
    refine Or.inr ⟨g, cap, by rw [hl], fun e => by rw [e] at hl; exact h0 hl.symm, by omega, h2, hB, hc.1, fun i hi => ?_⟩
    rw [hl] at hi
    rw [List.getElem?_take, if_pos hi]
    exact hc.2 i (by omega)
theorem Sl.of_cells {w : World} {B g cap : Nat} {l : List UInt8} (hc : Cells w g l) (hB : B ≤ g) (h1 : l.length ≤ cap) (h2 : cap ≤ maxLen) (n : Nat) (hn : l.length = n) : Sl w B (.slice (some ⟨g, 0, none⟩) n cap) l := by
  have := Sl.take hc hB h1 h2 n (by omega)
  rwa [List.take_of_length_le (by omega)] at this

theorem owns_cells {w : World} {base g n cap : Nat} {e : TypeId} {l : List UInt8} (h : w.ownsRow base e 1 (.slice (some ⟨g, 0, none⟩) n cap) n (l.map u8v)) (hn : l.length = n) (hlt : g < w.heap.size) : Cells w g l := by
  refine ⟨hlt, fun i hi => ⟨?_, h.frozenAt i⟩⟩
  rw [h.cellAt i (by omega), List.getElem?_map, List.getElem?_eq_getElem hi]; rfl
theorem sl_of_owns {w : World} {base : Nat} {e : TypeId} {v : Value} {l : List UInt8} (h : w.ownsRow base e 1 v l.length (l.map u8v)) : Sl w base v l := by
  have h' := h
  rcases h.2 with ⟨hv, h0⟩ | ⟨g, cap, cur, hv, hb, hg, hnc, hcm, hcs, htake⟩
  · exact Or.inl ⟨none, 0, hv, List.eq_nil_of_length_eq_zero h0⟩
  · subst hv
    have hlt : g < w.heap.size := (Array.getElem?_eq_some_iff.1 hg).1
    exact Sl.of_cells (owns_cells h' rfl hlt) hb hnc hcm _ rfl

theorem info_u8 {P : Program} {e : TypeId} (h : (P.info? e).map (fun i => (i.zero, i.size, i.bytes)) = some (some (.int .u8 0), 1, 1)) : ∃ i, P.info? e = some i ∧ i.zero = some (.int .u8 0) ∧ i.size = 1 ∧ i.bytes = 1 := info_parts h

/-- 'make([]byte, n)'. -/
theorem wpList_make_bytes {P : Program} {w : World} {ops : Array Oper} {rest : List Oper} {o : Oper} {a : Act} {Q : Exit → Act → World → Prop}
    (hg : o.guard = none) (l c : Operand) (t e : TypeId) (hop : o.op = Op.makeSlice t l c) (h1 : P.underlying t = some (.slice e)) (h2 : (P.info? e).map (fun i => (i.zero, i.size, i.bytes)) = some (some (.int .u8 0), 1, 1))
    (n : Nat) (hl : a.eval l = .int .i64 n) (hc : a.eval c = .int .i64 n) (hn : n ≤ 100000000)
    (hK : ∀ w1, Cells w1 w.heap.size (List.replicate n 0) → Below w.heap.size w w1 → w.heap.size < w1.heap.size → wpList P ops Q rest (a.put o.dst (.slice (some ⟨w.heap.size, 0, none⟩) n n)) w1) :
    wpList P ops Q (o :: rest) a w := by
  obtain ⟨i, hi, hz0, hz1, hz2⟩ := info_u8 h2
  refine wpList_make_full w hg l c t hop w.heap.size e i (.int .u8 0) 1 h1 hi hz0 hz1 .i64 .i64 n n n hl hc rfl rfl (by rw [hz2]; omega) (by unfold maxLen; omega) (Nat.le_refl _) fun w' hown hgr => ?_
  have hrep : (madeCells (Value.cells (.int .u8 0)) (n * 1)).toList = (List.replicate n (0 : UInt8)).map u8v := by
    rw [Nat.mul_one]; show (madeCells #[.int .u8 0] n).toList = _
    rw [toList_madeCells_one, List.map_replicate]; rfl
  rw [hrep] at hown
  have hlt : w.heap.size < w'.heap.size := (hown.lt w.heap.size rfl).2
  exact hK w' (owns_cells hown (by simp) hlt) ((Below.refl _ w).grown hgr (Nat.le_refl _) (fun k e => by cases e)) hlt

/-- 'append(x, y...)' for a slice x of the call's own that owns its bytes by 'ownsRow', and bytes y that lie at the head of a block. -/
theorem wpList_append_bytes {P : Program} {w : World} {ops : Array Oper} {rest : List Oper} {o : Oper} {a : Act} {Q : Exit → Act → World → Prop} (hgd : o.guard = none) (s x : Operand) (t e : TypeId)
    (ho : o.op = .call { callee := .builtin .append, args := #[s, x], argTypes := #[t, t] }) (ht : P.underlying t = some (.slice e)) (h2 : (P.info? e).map (fun i => (i.zero, i.size, i.bytes)) = some (some (.int .u8 0), 1, 1))
    (base : Nat) (v : Value) (L : List UInt8) (hs : a.eval s = v) (hown : w.ownsRow base e 1 v L.length (L.map u8v)) (hbase : base ≤ w.heap.size)
    (g m cap : Nat) (l : List UInt8) (hx : a.eval x = .slice (some ⟨g, 0, none⟩) m cap) (hm : l.length = m) (hl : Cells w g l) (hb : L.length + l.length ≤ 100000000)
    (h : ∀ v' w', w'.ownsRow base e 1 v' (L ++ l).length ((L ++ l).map u8v) → w.grownBy w' v.ownBlock → wpList P ops Q rest (a.put o.dst v') w') : wpList P ops Q (o :: rest) a w := by
  obtain ⟨i, hi, hz0, hz1, hz2⟩ := info_u8 h2
  subst hm
  refine wpList_append_own w hgd s x t ho base e i (.int .u8 0) 1 1 ht hi hz0 hz1 hz2 rfl (by decide) v L.length (L.map u8v) hs hown ⟨g, 0, none⟩ l.length cap (l.map u8v) hx (by simp) ?_ ?_ (by unfold maxLen; omega) (by omega) hbase ?_
  · intro j u hj
    rw [List.getElem?_map] at hj
    obtain ⟨b, hb1, hb2⟩ := Option.map_eq_some_iff.1 hj
    have hjl : j < l.length := (List.getElem?_eq_some_iff.1 hb1).1
    have e1 : (⟨g, 0, none⟩ : Addr).add j = ⟨g, j, none⟩ := by unfold Addr.add; split <;> simp_all
    rw [e1, hl.at j hjl, hb1, ← hb2]; rfl
  · intro u hu
    obtain ⟨b, _, hb2⟩ := List.mem_map.1 hu
    rw [← hb2]; rfl
  · intro v' w' h1 h2 _
    refine h v' w' ?_ h2
    rw [List.map_append, List.length_append]; exact h1

/-- .. of no bytes, from an address that is whatever. -/
theorem wpList_append_empty {P : Program} {w : World} {ops : Array Oper} {rest : List Oper} {o : Oper} {a : Act} {Q : Exit → Act → World → Prop} (hgd : o.guard = none) (s x : Operand) (t e : TypeId)
    (ho : o.op = .call { callee := .builtin .append, args := #[s, x], argTypes := #[t, t] }) (ht : P.underlying t = some (.slice e)) (h2 : (P.info? e).map (fun i => (i.zero, i.size, i.bytes)) = some (some (.int .u8 0), 1, 1))
    (base : Nat) (v : Value) (L : List UInt8) (hs : a.eval s = v) (hown : w.ownsRow base e 1 v L.length (L.map u8v)) (hbase : base ≤ w.heap.size)
    (ad : Addr) (cap : Nat) (hx : a.eval x = .slice (some ad) 0 cap) (hb : L.length ≤ 100000000)
    (h : ∀ v' w', w'.ownsRow base e 1 v' L.length (L.map u8v) → w.grownBy w' v.ownBlock → wpList P ops Q rest (a.put o.dst v') w') : wpList P ops Q (o :: rest) a w := by
  obtain ⟨i, hi, hz0, hz1, hz2⟩ := info_u8 h2
  refine wpList_append_own w hgd s x t ho base e i (.int .u8 0) 1 1 ht hi hz0 hz1 hz2 rfl (by decide) v L.length (L.map u8v) hs hown ad 0 cap [] hx rfl (fun j u hj => by simp at hj) (fun u hu => by simp at hu) (by unfold maxLen; omega) (by omega) hbase ?_
  intro v' w' h1 h2 _
  refine h v' w' ?_ h2
  simpa using h1
theorem below_own {w w' : World} {g n cap : Nat} (h : w.grownBy w' (Value.slice (some ⟨g, 0, none⟩) n cap).ownBlock) {B : Nat} (hB : B ≤ w.heap.size) (hg : B ≤ g) : Below B w w' :=
  (Below.refl B w).grown h hB (fun k e => by cases e; exact hg)
end Go.Proofs.Ytamkahjdedomlaa
