/-
  Slices of structs that come in, opened.
-/
import Derived.Test.YtafididfgljfcaaAssP
import Derived.Test.YtafididfgljfcaaLawOpen
import Derived.Deep.Slices
import Derived.ChangeSame
namespace Go.Proofs.Ytafididfgljfcaa
open Go.ChangeShapes Go.WideShapes Go.ChangeAt Go.RowKit Go.Deep
set_option linter.unusedVariables false
theorem list_of {α : Type} (Q : Nat → α → Prop) : ∀ n, (∀ i, i < n → ∃ x, Q i x) → ∃ l : List α, l.length = n ∧ ∀ i x, l[i]? = some x → Q i x
  | 0, _ => ⟨[], rfl, fun i x h => by simp at h⟩
  | n + 1, h => by
    obtain ⟨l, hl, hq⟩ := list_of Q n (fun i hi => h i (by omega))
    obtain ⟨x, hx⟩ := h n (by omega)
    refine ⟨l ++ [x], by simp [hl], fun i y hy => ?_⟩
    by_cases hi : i < n
    · rw [List.getElem?_append_left (by omega)] at hy; exact hq i y hy
    · have hlt : i < (l ++ [x]).length := (List.getElem?_eq_some_iff.1 hy).1
      rw [List.length_append, hl] at hlt
      have e : i = n := by simp only [List.length_cons, List.length_nil] at hlt; omega
      subst e
      rw [List.getElem?_append_right (by omega), hl, Nat.sub_self] at hy
      cases hy; exact hx
section
variable {H : Type} {enc : TypeId × Value → H} {P : Program} {w : World} {base : Nat} {spare : Nat → Bool} {held : Bool}
theorem open_rows {α : Type} {r : Reach} {b0 n : Nat} {t e : TypeId} {v : Value} {d : DataW H} {p : List MemPlace} (cs : α → List Value) (ok : α → Prop) (ht : P.underlying t = some (.slice e)) (hc : P.cellsOf e = n) (hn : 0 < n)
    (hel : ∀ fuel l y, DataW.trod enc P w base spare held fuel e l = some y → ∃ x, l = cs x ∧ ok x)
    (hv : Value.okWide P w r b0 t v) (h : DataW.Trod enc P w base spare held t v d p) : ∃ l : List α, IsS n cs w v l ∧ ∀ x ∈ l, ok x := by
  obtain ⟨a0, len, cap, rfl⟩ := okWide_slice ht hv
  obtain ⟨fuel, hf⟩ := h
  rcases open_slice ht (by simpa [Value.cells] using hf) with ⟨hcs, _⟩ | ⟨a, len', cap', m, n', D, Pl, hcs, _, hl, hm, hmm, _, hi⟩
  · simp at hcs
    obtain ⟨rfl, rfl, rfl⟩ := hcs
    exact ⟨[], IsS.nil, fun x hx => by cases hx⟩
  · simp at hcs
    obtain ⟨rfl, rfl, rfl⟩ := hcs
    have hlm : len ≤ m := by rw [hmm]; split <;> omega
    obtain ⟨l, hll, hq⟩ := list_of (fun i x => w.cells? base (a.add (i * P.cellsOf e)) (P.cellsOf e) = some (cs x) ∧ ok x) len (fun i hil => by
      obtain ⟨cs', h1, h2⟩ := hi i (by omega)
      obtain ⟨x, rfl, hx⟩ := hel _ _ _ h2
      exact ⟨x, h1, hx⟩)
    refine ⟨l, ?_, fun x hx => by
      obtain ⟨i, hil⟩ := List.mem_iff_getElem?.1 hx
      exact (hq i x hil).2⟩
    subst hll
    obtain ⟨b, off, spot⟩ := a
    refine ⟨_, off, cap, rfl, by omega, fun i x hx => ?_⟩
    obtain ⟨h1, _⟩ := hq i x hx
    obtain ⟨_, hcl, hat⟩ := World.cells?_some h1
    rw [hc] at hcl hat
    have hil : i < l.length := (List.getElem?_eq_some_iff.1 hx).1
    obtain ⟨x0, hx0⟩ : ∃ x0, l[0]? = some x0 := ⟨_, List.getElem?_eq_getElem (by omega)⟩
    obtain ⟨h10, _⟩ := hq 0 x0 hx0
    obtain ⟨_, hcl0, hat0⟩ := World.cells?_some h10
    rw [hc] at hcl0 hat0
    have hc0 := hat0 0 hn
    have hv0 : (cs x0)[0]? = some ((cs x0)[0]'(by omega)) := List.getElem?_eq_getElem _
    rw [hv0] at hc0
    have hspot : spot = none := by simpa [Addr.add] using World.cell?_spot hc0
    subst hspot
    have hb : b < w.heap.size := by
      have := World.block_lt_of_cell? w _ hc0
      simpa [Addr.add_mid] using this
    refine ⟨b, rfl, hb, fun j v hj => ?_⟩
    have hjn : j < n := by rw [← hcl]; exact (List.getElem?_eq_some_iff.1 hj).1
    have := hat j hjn
    rw [Addr.add_mid, Addr.add_mid, hj] at this
    exact this
theorem open_len {α : Type} {r : Reach} {b0 n : Nat} {t e : TypeId} {v : Value} {d : DataW H} {p : List MemPlace} {cs : α → List Value} {l : List α} (ht : P.underlying t = some (.slice e)) (hv : Value.okWide P w r b0 t v) (h : DataW.Trod enc P w base spare held t v d p) (hl : IsS n cs w v l) :
    l.length = 0 ∨ ∃ elems sp, d = .slice elems sp ∧ elems.length = l.length := by
  obtain ⟨a0, len, cap, rfl⟩ := okWide_slice ht hv
  obtain ⟨a1, off, cap1, e1, _⟩ := hl
  simp only [Value.slice.injEq] at e1
  obtain ⟨_, rfl, _⟩ := e1
  obtain ⟨fuel, hf⟩ := h
  rcases open_slice ht (by simpa [Value.cells] using hf) with ⟨hcs, _⟩ | ⟨a, len', cap', m, n', D, Pl, hcs, _, hl, hm, hmm, hx, hi⟩
  · simp at hcs
    exact Or.inl (by rw [hcs.2.1]; rfl)
  · simp at hcs
    obtain ⟨_, rfl, _⟩ := hcs
    simp only [Prod.mk.injEq] at hx
    exact Or.inr ⟨_, _, hx.1, by simp⟩
theorem field_int {fuel : Nat} {t : TypeId} {fs : Array Field} {cs : List Value} {xs : List (DataW H × List MemPlace)} {n : Nat} (hxl : xs.length = fs.size)
    (hg : ∀ (i : Nat) (f : Field), fs[i]? = some f → DataW.trod enc P w base spare held n f.type ((cs.drop f.offset).take (P.cellsOf f.type)) = xs[i]?) (i : Nat) (f : Field) (hf : fs[i]? = some f) {q : IntKind} (hu : P.underlying f.type = some (.int q)) (hc : P.cellsOf f.type = 1) :
    ∃ z, (cs.drop f.offset).take 1 = [.int q z] ∧ (Lit.int q z).wf = true := by
  have h1 := hg i f hf
  have hi : i < xs.length := by rw [hxl]; exact (Array.getElem?_eq_some_iff.1 hf).1
  rw [List.getElem?_eq_getElem hi, hc] at h1
  obtain ⟨z, hz, _, hwz⟩ := DataW.trod_int hu h1
  exact ⟨z, hz, hwz⟩
end
section
variable {H : Type} {enc : TypeId × Value → H} {w : World} {base : Nat} {spare : Nat → Bool} {held : Bool}
structure He.Wf (h : He) : Prop where
  reel : (Lit.int .i64 h.reel).wf = true
  found : (Lit.int .i64 h.found).wf = true
  missing : (Lit.int .i64 h.missing).wf = true
  worst : (Lit.int .i64 h.worst).wf = true
  corr : (Lit.int .i64 h.corr).wf = true
theorem Try.cells3 : Try.prog.cellsOf 3 = 1 := by kernel_rfl
theorem trod_he (fuel : Nat) (l : List Value) (y : DataW H × List MemPlace) (h : DataW.trod enc Try.prog w base spare held fuel 31 l = some y) : ∃ x : He, l = x.cs ∧ x.Wf := by
  obtain ⟨xs, n, _, _, hl, hxl, hg⟩ := DataW.trod_struct Try.underlying31 h
  rw [show Try.prog.cellsOf 31 = 5 by kernel_rfl] at hl
  obtain ⟨z0, e0, w0⟩ := field_int (fuel := fuel) (t := 31) hxl hg 0 _ rfl Try.underlying3 Try.cells3
  obtain ⟨z1, e1, w1⟩ := field_int (fuel := fuel) (t := 31) hxl hg 1 _ rfl Try.underlying3 Try.cells3
  obtain ⟨z2, e2, w2⟩ := field_int (fuel := fuel) (t := 31) hxl hg 2 _ rfl Try.underlying3 Try.cells3
  obtain ⟨z3, e3, w3⟩ := field_int (fuel := fuel) (t := 31) hxl hg 3 _ rfl Try.underlying3 Try.cells3
  obtain ⟨z4, e4, w4⟩ := field_int (fuel := fuel) (t := 31) hxl hg 4 _ rfl Try.underlying3 Try.cells3
  match l, hl with
  | [c0, c1, c2, c3, c4], _ =>
    simp at e0 e1 e2 e3 e4
    subst e0 e1 e2 e3 e4
    exact ⟨⟨z0, z1, z2, z3, z4⟩, rfl, ⟨w0, w1, w2, w3, w4⟩⟩
theorem trod_fr (fuel : Nat) (l : List Value) (y : DataW H × List MemPlace) (h : DataW.trod enc Try.prog w base spare held fuel 39 l = some y) : ∃ x : Fr, l = x.cs ∧ x.Ok := by
  obtain ⟨xs, n, _, _, hl, hxl, hg⟩ := DataW.trod_struct Try.underlying39 h
  rw [show Try.prog.cellsOf 39 = 9 by kernel_rfl] at hl
  obtain ⟨z0, e0, w0⟩ := field_int (fuel := fuel) (t := 39) hxl hg 0 _ rfl Try.underlying3 Try.cells3
  obtain ⟨z1, e1, w1⟩ := field_int (fuel := fuel) (t := 39) hxl hg 1 _ rfl Try.underlying3 Try.cells3
  obtain ⟨z2, e2, w2⟩ := field_int (fuel := fuel) (t := 39) hxl hg 2 _ rfl Try.underlying3 Try.cells3
  obtain ⟨z3, e3, w3⟩ := field_int (fuel := fuel) (t := 39) hxl hg 3 _ rfl Try.underlying3 Try.cells3
  obtain ⟨z4, e4, w4⟩ := field_int (fuel := fuel) (t := 39) hxl hg 4 _ rfl Try.underlying3 Try.cells3
  obtain ⟨z7, e7, w7⟩ := field_int (fuel := fuel) (t := 39) hxl hg 6 _ rfl Try.underlying37 (by kernel_rfl)
  have h5 := hg 5 _ rfl
  have hxl8 : xs.length = 8 := hxl
  rw [List.getElem?_eq_getElem (by omega)] at h5
  obtain ⟨ys, n5, _, _, hl5, hyl, hg5⟩ := DataW.trod_struct Try.underlying36 h5
  obtain ⟨z5, e5, w5⟩ := field_int (fuel := fuel) (t := 36) hyl hg5 0 _ rfl Try.underlying3 Try.cells3
  obtain ⟨z6, e6, w6⟩ := field_int (fuel := fuel) (t := 36) hyl hg5 1 _ rfl Try.underlying3 Try.cells3
  have h8 := hg 7 _ rfl
  rw [List.getElem?_eq_getElem (by omega)] at h8
  obtain ⟨z8, e8, w8⟩ := DataW.trod_string Try.underlying9 h8
  have e5' : (((l.drop 5).take (Try.prog.cellsOf 36)).drop 0).take 1 = [Value.int .i64 z5] := e5
  have e6' : (((l.drop 5).take (Try.prog.cellsOf 36)).drop 1).take 1 = [Value.int .i64 z6] := e6
  have e8' : (l.drop 8).take (Try.prog.cellsOf 9) = [Value.string z8] := e8
  rw [show Try.prog.cellsOf 36 = 2 by kernel_rfl] at e5' e6'
  rw [show Try.prog.cellsOf 9 = 1 by kernel_rfl] at e8'
  match l, hl with
  | [c0, c1, c2, c3, c4, c5, c6, c7, c8], _ =>
    simp at e0 e1 e2 e3 e4 e5' e6' e7 e8'
    subst e0 e1 e2 e3 e4 e5' e6' e7 e8'
    exact ⟨⟨z0, z1, z2, z3, z4, z5, z6, z7, z8⟩, rfl, ⟨w0, w1, w2, w3, w4, w5, w6, w7, w8.2⟩⟩
structure Sg.Ok (s : Sg) : Prop where
  piece : (Lit.int .i64 s.piece).wf = true
  pos : (Lit.int .i64 s.pos).wf = true
  frame : s.frame.Ok
  dist : (Lit.int .i64 s.dist).wf = true
  unread : (Lit.int .i64 s.unread).wf = true
  corr : (Lit.int .i64 s.corr).wf = true
theorem trod_sg (fuel : Nat) (l : List Value) (y : DataW H × List MemPlace) (h : DataW.trod enc Try.prog w base spare held fuel 43 l = some y) : ∃ x : Sg, l = x.cs ∧ x.Ok := by
  obtain ⟨xs, n, _, _, hl, hxl, hg⟩ := DataW.trod_struct Try.underlying43 h
  rw [show Try.prog.cellsOf 43 = 14 by kernel_rfl] at hl
  obtain ⟨z0, e0, w0⟩ := field_int (fuel := fuel) (t := 43) hxl hg 0 _ rfl Try.underlying3 Try.cells3
  obtain ⟨z1, e1, w1⟩ := field_int (fuel := fuel) (t := 43) hxl hg 1 _ rfl Try.underlying3 Try.cells3
  have hxl4 : xs.length = 4 := hxl
  have h2 := hg 2 _ rfl
  rw [List.getElem?_eq_getElem (by omega)] at h2
  obtain ⟨f, ef, wf⟩ := trod_fr _ _ _ h2
  have h3 := hg 3 _ rfl
  rw [List.getElem?_eq_getElem (by omega)] at h3
  obtain ⟨ys, n5, _, _, hl5, hyl, hg5⟩ := DataW.trod_struct Try.underlying41 h3
  obtain ⟨z2, e2, w2⟩ := field_int (fuel := fuel) (t := 41) hyl hg5 0 _ rfl Try.underlying3 Try.cells3
  obtain ⟨z3, e3, w3⟩ := field_int (fuel := fuel) (t := 41) hyl hg5 1 _ rfl Try.underlying3 Try.cells3
  obtain ⟨z4, e4, w4⟩ := field_int (fuel := fuel) (t := 41) hyl hg5 2 _ rfl Try.underlying3 Try.cells3
  have ef' : (l.drop 2).take (Try.prog.cellsOf 39) = f.cs := ef
  have e2' : (((l.drop 11).take (Try.prog.cellsOf 41)).drop 0).take 1 = [Value.int .i64 z2] := e2
  have e3' : (((l.drop 11).take (Try.prog.cellsOf 41)).drop 1).take 1 = [Value.int .i64 z3] := e3
  have e4' : (((l.drop 11).take (Try.prog.cellsOf 41)).drop 2).take 1 = [Value.int .i64 z4] := e4
  rw [show Try.prog.cellsOf 41 = 3 by kernel_rfl] at e2' e3' e4'
  rw [show Try.prog.cellsOf 39 = 9 by kernel_rfl] at ef'
  match l, hl with
  | [c0, c1, c2, c3, c4, c5, c6, c7, c8, c9, c10, c11, c12, c13], _ =>
    simp at e0 e1 e2' e3' e4'
    simp [Fr.cs] at ef'
    obtain ⟨f0, f1, f2, f3, f4, f5, f6, f7, f8⟩ := ef'
    subst e0 e1 e2' e3' e4' f0 f1 f2 f3 f4 f5 f6 f7 f8
    exact ⟨⟨z0, z1, f, z2, z3, z4⟩, rfl, ⟨w0, w1, wf, w2, w3, w4⟩⟩
theorem open_quality {r : Reach} {b0 : Nat} {v : Value} {d : DataW H} {p : List MemPlace} (hv : Value.okWide Try.prog w r b0 41 v) (h : DataW.Trod enc Try.prog w base spare held 41 v d p) :
    ∃ a b c, v = .agg #[.int .i64 a, .int .i64 b, .int .i64 c] ∧ (Lit.int .i64 a).wf = true ∧ (Lit.int .i64 b).wf = true ∧ (Lit.int .i64 c).wf = true := by
  obtain ⟨c0, c1, c2, y0, y1, y2, n, rfl, _, _, t0, t1, t2⟩ := Go.Joins.open_agg3 Try.underlying41 (by kernel_rfl) (by kernel_rfl) hv h
  obtain ⟨z0, e0, _, x0⟩ := DataW.trod_int Try.underlying3 t0
  obtain ⟨z1, e1, _, x1⟩ := DataW.trod_int Try.underlying3 t1
  obtain ⟨z2, e2, _, x2⟩ := DataW.trod_int Try.underlying3 t2
  simp only [List.cons.injEq, and_true] at e0 e1 e2
  subst e0 e1 e2
  exact ⟨z0, z1, z2, rfl, x0, x1, x2⟩
end
end Go.Proofs.Ytafididfgljfcaa
