/-
  Fields of a struct that lies in the newest block, or in the one before: read, written, read whole.
-/
import Derived.Test.YtafididfgljfcaaSlB
namespace Go.Proofs.Ytafididfgljfcaa
open Go.RowKit
set_option linter.unusedVariables false
section
variable {P : Program} {ops : Array Oper} {rest : List Oper} {o : Oper} {a : Act} {w : World} {Q : Exit → Act → World → Prop}

theorem wpList_load_at (hgd : o.guard = none) (ty : TypeId) (x : Operand) (ho : o.op = .load ty x) (hag : ∀ w, (isAgg ty).run P w = .ok false w)
    (ad : Addr) (v : Value) (hx : a.eval x = .pointer (some ad)) (hc : w.cell? ad = some v) (h : wpList P ops Q rest (a.put o.dst v) w) : wpList P ops Q (o :: rest) a w := by
  refine wpList_plain hgd fun _ hK => ?_
  unfold Oper.wp execOp
  simp only [ho, hx, Instr.loadAt, Instr.sureAddr, Sem.run_bind, Sem.run_pure, Result.andThen_ok, loadVar, hag w]
  simp [hc]
  exact hK _ _ h
theorem wpList_load_f1 (hgd : o.guard = none) (ty : TypeId) (x : Operand) (ho : o.op = .load ty x) (hag : ∀ w, (isAgg ty).run P w = .ok false w)
    (w0 : World) (cs : List Value) (t : TypeId) (N j : Nat) (v : Value) (hw : w = w0.alloc (.cells cs.toArray t)) (hx : a.eval x = .pointer (some ⟨N, j, none⟩)) (hN : w0.heap.size = N) (hc : cs[j]? = some v)
    (h : wpList P ops Q rest (a.put o.dst v) w) : wpList P ops Q (o :: rest) a w := by
  subst hw hN
  exact wpList_load_at hgd ty x ho hag _ v hx (box_cell w0 cs t j v hc) h
theorem wpList_load_f2 (hgd : o.guard = none) (ty : TypeId) (x : Operand) (ho : o.op = .load ty x) (hag : ∀ w, (isAgg ty).run P w = .ok false w)
    (w0 : World) (cs : List Value) (t : TypeId) (B : Obj) (N j : Nat) (v : Value) (hw : w = (w0.alloc (.cells cs.toArray t)).alloc B) (hx : a.eval x = .pointer (some ⟨N, j, none⟩)) (hN : w0.heap.size = N) (hc : cs[j]? = some v)
    (h : wpList P ops Q rest (a.put o.dst v) w) : wpList P ops Q (o :: rest) a w := by
  subst hw hN
  refine wpList_load_at hgd ty x ho hag _ v hx ?_ h
  rw [World.cell?_alloc_lt _ _ _ (by simp)]
  exact box_cell w0 cs t j v hc
theorem wpList_load_s1 (hgd : o.guard = none) (ty : TypeId) (x : Operand) (ho : o.op = .load ty x) (d : TypeDesc)
    (w0 : World) (cs : List Value) (t : TypeId) (N : Nat) (hw : w = w0.alloc (.cells cs.toArray t)) (hx : a.eval x = .pointer (some ⟨N, 0, none⟩)) (hN : w0.heap.size = N)
    (hu : P.underlying ty = some d) (hd : d.isRow = true) (hi : (P.info? ty).map (·.size) = some cs.length)
    (h : wpList P ops Q rest (a.put o.dst (.agg cs.toArray)) w) : wpList P ops Q (o :: rest) a w := by
  subst hw hN
  exact wpList_load_mid hgd ty x ho _ 0 hx cs d (box_range w0 cs t) hu hd hi h
theorem wpList_load_s2 (hgd : o.guard = none) (ty : TypeId) (x : Operand) (ho : o.op = .load ty x) (d : TypeDesc)
    (w0 : World) (cs : List Value) (t : TypeId) (B : Obj) (N : Nat) (hw : w = (w0.alloc (.cells cs.toArray t)).alloc B) (hx : a.eval x = .pointer (some ⟨N, 0, none⟩)) (hN : w0.heap.size = N)
    (hu : P.underlying ty = some d) (hd : d.isRow = true) (hi : (P.info? ty).map (·.size) = some cs.length)
    (h : wpList P ops Q rest (a.put o.dst (.agg cs.toArray)) w) : wpList P ops Q (o :: rest) a w := by
  subst hw hN
  exact wpList_load_mid hgd ty x ho _ 0 hx cs d (World.rangeAt_alloc (box_range w0 cs t) _) hu hd hi h
theorem wpList_store_b (hgd : o.guard = none) (ty : TypeId) (x y : Operand) (ho : o.op = .store ty x y)
    (w0 : World) (old : Array Value) (cells : List Value) (N : Nat) (hw : w = w0.alloc (.cells old ty)) (hx : a.eval x = .pointer (some ⟨N, 0, none⟩)) (hN : w0.heap.size = N) (hy : a.eval y = .agg cells.toArray) (hi : (P.info? ty).map (·.size) = some cells.length)
    (hold : old.size = cells.length) (h1 : ∀ v ∈ cells, v.oneCell' = true) (h : wpList P ops Q rest (a.put o.dst undef) (w0.alloc (.cells cells.toArray ty))) : wpList P ops Q (o :: rest) a w := by
  subst hN
  exact wpList_store_new hgd ty x y ho w0 old cells.toArray hw hx hy (by rw [hi, List.size_toArray]) (by rw [List.size_toArray]; exact hold) (all_oneCell_toArray h1) h
theorem wpList_store_f1 (hgd : o.guard = none) (ty : TypeId) (x y : Operand) (ho : o.op = .store ty x y) (hsz : (P.info? ty).map (·.size) = some 1)
    (w0 : World) (cs : List Value) (t : TypeId) (N j : Nat) (v : Value) (hw : w = w0.alloc (.cells cs.toArray t)) (hx : a.eval x = .pointer (some ⟨N, j, none⟩)) (hN : w0.heap.size = N) (hy : a.eval y = v) (hv : v.cells = #[v]) (h1 : v.oneCell' = true) (hj : j < cs.length)
    (h : wpList P ops Q rest (a.put o.dst undef) (w0.alloc (.cells (cs.set j v).toArray t))) : wpList P ops Q (o :: rest) a w := by
  subst hw hN
  have hc : (w0.alloc (.cells cs.toArray t)).cell? ⟨w0.heap.size, j, none⟩ = some (cs[j]) := box_cell w0 cs t j _ (List.getElem?_eq_getElem hj)
  have hf := box_frozen w0 cs.toArray t j
  have e1 : ((w0.alloc (.cells cs.toArray t)).setCell ⟨w0.heap.size, j, none⟩ v) = w0.alloc (.cells (cs.set j v).toArray t) := by
    rw [setCell_eq_setRow _ _ _ cs.toArray t (0, 0) v (heap_alloc_last w0 _), World.setRow_alloc_new]
    congr 2
    simp
  refine wpList_plain hgd fun _ hK => ?_
  unfold Oper.wp execOp
  cases hq : P.info? ty with
  | none => simp [hq] at hsz
  | some i =>
    have hs : i.size = 1 := by simpa [hq] using hsz
    have e0 : (⟨w0.heap.size, j, none⟩ : Addr).add 0 = ⟨w0.heap.size, j, none⟩ := Addr.add_mid _ _ 0
    simp only [ho, hx, hy, Instr.storeAt, Instr.sureAddr, Sem.run_bind, Sem.run_pure, Result.andThen_ok, storeVar, sizeOf, typeInfo, hv]
    simp [storeCells, e0, run_store P _ _ v _ h1, hc, hf, e1, hq, hs, Result.andThen]
    exact hK _ _ h
/-- 'm[k]', the zero of the element where the key is not there. -/
theorem wpList_map_get {κ α : Type} [DecidableEq κ] {kt et : TypeId} {ek : κ → Value} {ev : α → Value} (E : Enc P kt ek) (hg : o.guard = none) (m x : Operand) (t : TypeId) (hop : o.op = Op.lookup t m x false) (ht : P.underlying t = some (.map kt et)) (z : α) (hz : (zeroValue et).run P w = .ok (ev z) w)
    (b : Nat) (l : List (κ × α)) (hm : a.eval m = .map (some b)) (h : MapIs w P kt ek ev b l) (y : κ) (hx : a.eval x = ek y) {kl : Lit} (hk : keyOf P kt (ek y) = some kl) (u : α) (hu : (getK l y).getD z = u)
    (hK : wpList P ops Q rest (a.put o.dst (ev u)) w) : wpList P ops Q (o :: rest) a w := by
  refine wpList_map_look E hg m x t false hop ht (ev z) hz b l hm h y hx hk ?_
  subst hu
  cases hgk : getK l y with
  | none => rw [hgk] at hK; exact hK
  | some v => rw [hgk] at hK; exact hK
end
theorem key_i64 {n : Int} (h : (Lit.int .i64 n).wf = true) : keyOf Try.prog 3 (iv n) = some (.int .i64 n) := by
  unfold keyOf
  rw [Try.underlying3]
  simp only
  unfold mapKey
  rw [Try.underlying3]
  simp only [h, and_self, if_true]
theorem Try.size3 : (Try.prog.info? 3).map (·.size) = some 1 := by kernel_rfl
end Go.Proofs.Ytafididfgljfcaa
