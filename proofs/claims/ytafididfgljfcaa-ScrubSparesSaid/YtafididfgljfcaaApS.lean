/-
  append of a whole slice of structs (it may be nil) to structs of the call's own.
-/
import Derived.Test.YtafididfgljfcaaRgH
import Derived.Test.YtafididfgljfcaaSlB
import Derived.Test.YtafididfgljfcaaAssP
import Derived.Maps.AppendAt
namespace Go.Proofs.Ytafididfgljfcaa
open Go.RowKit
set_option linter.unusedVariables false

theorem run_append_nothing {P : Program} (w : World) (base : Nat) (t ty e : TypeId) (i : TypeInfo) (size : Nat) (ht : P.underlying t = some (.slice e)) (hi : P.info? e = some i)
    (v : Value) (n : Nat) (xs : List Value) (hown : w.ownsRow base e size v n xs) (c : Nat) : (Builtin.append_ #[t, t] ty #[v, .slice none 0 c]).run P w = .ok v w := by
  rcases hown.2 with ⟨rfl, rfl⟩ | ⟨g, cap, cur, rfl, hbg, hg, hnc, hcm, hcs, htake⟩
  · simp [Builtin.append_, run_underlying ht, sizeOf, typeInfo, hi, Builtin.lenOf, Builtin.firstCells]
  · simp [Builtin.append_, run_underlying ht, sizeOf, typeInfo, hi, Builtin.lenOf, Builtin.firstCells, hnc, storeCells]
theorem flat_split {α : Type} {cs : α → List Value} {n : Nat} (hn : ∀ x, (cs x).length = n) (h0 : 0 < n) (l : List α) (j : Nat) (u : Value) (h : (l.flatMap cs)[j]? = some u) : ∃ i r x, l[i]? = some x ∧ r < n ∧ j = i * n + r ∧ (cs x)[r]? = some u := by
  have hj : j < (l.flatMap cs).length := (List.getElem?_eq_some_iff.1 h).1
  rw [flat_len cs n hn] at hj
  have hi : j / n < l.length := (Nat.div_lt_iff_lt_mul h0).2 hj
  have hr : j % n < n := Nat.mod_lt _ h0
  have e : j = j / n * n + j % n := by rw [Nat.mul_comm]; exact (Nat.div_add_mod j n).symm
  refine ⟨j / n, j % n, l[j / n], List.getElem?_eq_getElem hi, hr, e, ?_⟩
  rw [← flat_get cs n hn l (j / n) (j % n) _ (List.getElem?_eq_getElem hi) hr, ← e]; exact h
theorem run_append_L {α : Type} {P : Program} (w : World) (t ty e : TypeId) (ht : P.underlying t = some (.slice e)) (z : Value) (size bytes : Nat) (h2 : (P.info? e).map (fun i => (i.zero, i.size, i.bytes)) = some (some z, size, bytes)) (hz : z.cells.size = size) (hs0 : 0 < size) (hby : bytes ≤ 1000)
    (cs : α → List Value) (hcs : ∀ x, (cs x).length = size) (hone : ∀ x, ∀ u ∈ cs x, u.oneCell' = true)
    (base : Nat) (v : Value) (n : Nat) (L : List α) (hown : w.ownsRow base e size v n (L.flatMap cs)) (hbase : base ≤ w.heap.size)
    (ad : Option Addr) (off m cap : Nat) (l : List α) (hm : l.length = m) (hr : RowsAt size cs w ad off l) (hb : n + m ≤ 100000) :
    ∃ v' w', (Builtin.append_ #[t, t] ty #[v, .slice ad m cap]).run P w = .ok v' w' ∧ w'.ownsRow base e size v' (n + m) ((L ++ l).flatMap cs) ∧ w.grownBy w' v.ownBlock ∧ (v'.ownBlock = v.ownBlock ∨ v'.ownBlock = some w.heap.size) := by
  obtain ⟨i, hi, hz0, hz1, hz2⟩ := info_parts h2
  subst hm
  have hbytes : (n + l.length) * bytes ≤ 140737488355328 := by
    have : (n + l.length) * bytes ≤ 100000 * 1000 := Nat.mul_le_mul hb hby
    omega
  cases ad with
  | none =>
    have hl : l = [] := by
      cases l with
      | nil => rfl
      | cons x l => obtain ⟨b, e1, _⟩ := hr 0 x rfl; cases e1
    subst hl
    refine ⟨v, w, run_append_nothing w base t ty e i size ht hi v n _ hown cap, by simpa using hown, ⟨rfl, rfl, rfl, Nat.le_refl _, fun _ _ _ => rfl⟩, Or.inl rfl⟩
  | some p =>
    obtain ⟨v', w', h1, h2, h3, _, h4⟩ := run_append_own_at (P := P) w base t ty e i z size bytes ht hi hz0 hz1 hz2 hz hs0 v n (L.flatMap cs) hown p l.length cap (l.flatMap cs) (flat_len cs size hcs l) (fun j u hj => by
      obtain ⟨k, r, x, hx, hrn, rfl, hu⟩ := flat_split hcs hs0 l j u hj
      obtain ⟨b, e1, e2, e3⟩ := hr k x hx
      have e1 := Option.some.inj e1
      subst e1
      have := e3 r u hu
      rw [Addr.add_mid, ← Nat.add_assoc]; exact this) (fun u hu => by
      obtain ⟨x, _, hx⟩ := List.mem_flatMap.1 hu
      exact hone x u hx) (by unfold maxLen; omega) hbytes hbase
    exact ⟨v', w', h1, by rw [List.flatMap_append]; exact h2, h3, h4⟩
theorem wpList_append_L {α : Type} {P : Program} {w : World} {ops : Array Oper} {rest : List Oper} {o : Oper} {a : Act} {Q : Exit → Act → World → Prop} (hgd : o.guard = none) (s x : Operand) (t e : TypeId)
    (ho : o.op = .call { callee := .builtin .append, args := #[s, x], argTypes := #[t, t] }) (ht : P.underlying t = some (.slice e)) (z : Value) (size bytes : Nat) (h2 : (P.info? e).map (fun i => (i.zero, i.size, i.bytes)) = some (some z, size, bytes)) (hz : z.cells.size = size) (hs0 : 0 < size) (hby : bytes ≤ 1000)
    (cs : α → List Value) (hcs : ∀ x, (cs x).length = size) (hone : ∀ x, ∀ u ∈ cs x, u.oneCell' = true)
    (base : Nat) (v : Value) (n : Nat) (L : List α) (hs : a.eval s = v) (hown : w.ownsRow base e size v n (L.flatMap cs)) (hbase : base ≤ w.heap.size)
    (ad : Option Addr) (off m cap : Nat) (l : List α) (hx : a.eval x = .slice ad m cap) (hm : l.length = m) (hr : RowsAt size cs w ad off l) (hb : n + m ≤ 100000)
    (h : ∀ v' w', w'.ownsRow base e size v' (n + m) ((L ++ l).flatMap cs) → w.grownBy w' v.ownBlock → (v'.ownBlock = v.ownBlock ∨ v'.ownBlock = some w.heap.size) → wpList P ops Q rest (a.put o.dst v') w') : wpList P ops Q (o :: rest) a w := by
  obtain ⟨v', w', hrun, r1, r2, r3⟩ := run_append_L (P := P) w t o.type e ht z size bytes h2 hz hs0 hby cs hcs hone base v n L hown hbase ad off m cap l hm hr hb
  refine wpList_plain hgd fun K hK => ?_
  unfold Oper.wp
  simp [execOp, ho, resolve, invoke, builtin, hs, hx, hrun, Result.andThen]
  exact hK _ _ (h v' w' r1 r2 r3)
/-- A load of a whole row, for the head of a region that draws. -/
theorem exec_load_mid {P : Program} {o : Oper} {a : Act} {w : World} (ty : TypeId) (x : Operand) (ho : o.op = .load ty x) (b off : Nat) (cs : List Value) (d : TypeDesc) (hx : a.eval x = .pointer (some ⟨b, off, none⟩)) (hc : w.rangeAt b off cs)
    (hu : P.underlying ty = some d) (hd : d.isRow = true) (hi : (P.info? ty).map (·.size) = some cs.length) : (execOp a.eval o).run P w = .ok (.value (.agg cs.toArray)) w := by
  unfold execOp
  simp only [ho, hx, Instr.loadAt, Instr.sureAddr, Sem.run_bind, Sem.run_pure, Result.andThen_ok, run_loadVar_mid w b off ty cs d hc hu hd hi]
theorem exec_sliceS {α : Type} {P : Program} {o : Oper} {a : Act} {w : World} (t e : TypeId) (n : Nat) (parts : Array (Nat × Operand)) (ho : o.op = .buildSlice t n parts) (ht : P.underlying t = some (.slice e)) (z : Value) (size bytes : Nat) (h2 : (P.info? e).map (fun i => (i.zero, i.size, i.bytes)) = some (some z, size, bytes)) (hs0 : 0 < size) (hsm : size ≤ 1000)
    (cs : α → List Value) (hcs : ∀ x, (cs x).length = size) (L : List α) (hn : L.length = n) (hn0 : 0 < n) (hn1 : n ≤ 1000)
    (hp : parts.toList.map (fun p => (p.1, a.eval p.2)) = ((L.map fun x => Value.agg (cs x).toArray).zipIdx 0).map fun x => (x.2, x.1)) :
    (execOp a.eval o).run P w = .ok (.value (.slice (some ⟨w.heap.size, 0, none⟩) n n)) (w.alloc (.cells (L.flatMap cs).toArray e)) := by
  have hp' : (parts.map fun (i, x) => (i, a.eval x)).toList = ((L.map fun x => Value.agg (cs x).toArray).zipIdx 0).map fun x => (x.2, x.1) := by rw [Array.toList_map]; exact hp
  unfold execOp
  simp only [ho, Sem.run_bind, run_sliceS w t e n _ ht z size bytes h2 hs0 hsm cs hcs L hn hn0 hn1 hp', Result.andThen_ok]
  rfl
theorem exec_append {P : Program} {o : Oper} {a : Act} {w w' : World} {v v' x : Value} (s y : Operand) (t : TypeId) (ho : o.op = .call { callee := .builtin .append, args := #[s, y], argTypes := #[t, t] }) (hs : a.eval s = v) (hx : a.eval y = x)
    (hrun : (Builtin.append_ #[t, t] o.type #[v, x]).run P w = .ok v' w') : (execOp a.eval o).run P w = .ok (.value v') w' := by
  simp [execOp, ho, resolve, invoke, builtin, hs, hx, hrun, Result.andThen]
end Go.Proofs.Ytafididfgljfcaa
