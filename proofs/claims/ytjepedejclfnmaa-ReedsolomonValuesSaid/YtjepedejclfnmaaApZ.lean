/-
  'append(b, make([]byte, m)...)': the row with m zeros behind.
-/
import Derived.Test.YtjepedejclfnmaaLf
namespace Go.Proofs.Ytjepedejclfnmaa
open Go.RowKit
set_option linter.unusedVariables false

theorem zeroCells_one (v : Value) (n : Nat) : (Builtin.zeroCells #[v] n).toList = List.replicate n v := by
  apply List.ext_getElem
  · simp [Builtin.zeroCells]
  · intro i h1 h2
    simp [Builtin.zeroCells, Nat.mod_one]
theorem Cells.fore {w : World} {g : Nat} {l m : List UInt8} (h : Cells w g (l ++ m)) : Cells w g l := by
  refine ⟨h.1, fun i hi => ?_⟩
  have := h.2 i (by rw [List.length_append]; omega)
  rwa [List.getElem?_append_left hi] at this
theorem setMany_zeros (l : List UInt8) (n m c : Nat) (hl : l.length = n) (hm : m ≤ c) : setMany (l ++ List.replicate c 0) n (List.replicate m 0) = l ++ List.replicate c 0 := by
  refine co_ext (by rw [setMany_len]) fun k hk => ?_
  rw [co_setMany _ _ _ _ (by simp; omega)]
  split
  · rename_i h
    rw [co_replicate]
    obtain ⟨j, rfl⟩ : ∃ j, k = l.length + j := ⟨k - l.length, by omega⟩
    rw [co_append_right, co_replicate]
  · rfl

theorem cells_alloc (w : World) (L : List UInt8) (e : TypeId) : Cells (w.alloc (.cells ((L.map u8v).toArray) e)) w.heap.size L := by
  refine ⟨by simp, fun i hi => ⟨?_, by rw [World.frozen?_alloc_mark, decide_eq_false (by omega : ¬ i < 0), Bool.and_false]⟩⟩
  rw [World.cell?_alloc_mark]
  simp only [List.getElem?_toArray, List.getElem?_map]
  rw [List.getElem?_eq_getElem hi]; rfl
theorem run_append_zeros {P : Program} (w : World) (t it ty e : TypeId) (i : TypeInfo) (ht : P.underlying t = some (.slice e)) (hit : P.underlying it = some (.int .i64)) (hi : P.info? e = some i) (hz : i.zero = some (.int .u8 0)) (hs : i.size = 1) (hb : i.bytes = 1)
    (g n cap m : Nat) (l : List UInt8) (hl : l.length = n) (hm : 0 < m) (hsm : n + m ≤ 100000) (hc : n ≤ cap) (hcm : cap ≤ maxLen) (hC : Cells w g (l ++ List.replicate (cap - n) 0)) (B : Nat) (hB : B ≤ g) :
    ∃ g' cap' w', (Builtin.append_ #[t, it] ty #[.slice (some ⟨g, 0, none⟩) n cap, .int .i64 m]).run P w = .ok (.slice (some ⟨g', 0, none⟩) (n + m) cap') w' ∧ B ≤ g' ∧ n + m ≤ cap' ∧ cap' ≤ maxLen ∧ Cells w' g' (l ++ List.replicate m 0) ∧ Below B w w' := by
  have hw : IntKind.i64.wrap (m : Int) = m := IntWalk.i64_in _ (by omega)
  have h0 : ¬ ((m : Int) < 0) := by omega
  have h1 : ¬ (281474976710656 < (m : Int)) := by omega
  have hm0 : ¬ m = 0 := by omega
  have hai : ∀ w : World, (asIntOf (.int .i64 (m : Int))).run P w = .ok (.i64, (m : Int)) w := fun w => rfl
  have hml : ¬ ((m : Int) ≤ 0) := by omega
  by_cases hr : n + m ≤ cap
  · have hzc := zeroCells_one (.int .u8 0) m
    have hst := run_storeCells_cells (P := P) g n (List.replicate m (.int .u8 0)) 0 w
      (by
        intro j hj
        rw [List.length_replicate] at hj
        rw [Nat.add_zero, hC.at (n + j) (by simp; omega)]; rfl)
      (by
        intro j hj
        rw [List.length_replicate] at hj
        rw [Nat.add_zero]; exact hC.free (n + j) (by simp; omega))
      (by intro u hu; rw [List.eq_of_mem_replicate hu]; rfl)
    have hC2 := Cells.setMany (List.replicate m 0) n hC (by simp; omega)
    rw [setMany_zeros l n m (cap - n) hl (by omega), List.map_replicate] at hC2
    have hO := Onl.setCells hB (List.replicate m (.int .u8 0)) n (Onl.refl B g w)
    refine ⟨g, cap, w.setCells g n (List.replicate m (.int .u8 0)), ?_, hB, hr, hcm, ?_, hO.below⟩
    · simp only [Nat.add_zero] at hst
      simp [Builtin.append_, run_underlying ht, run_underlying hit, sizeOf, typeInfo, zeroValue, hi, hz, hs, hb, asInt, hai, hw, h0, h1, hm0, hr, Addr.add_lit, Value.cells, hzc, hst]
    · have e : l ++ List.replicate (cap - n) (0 : UInt8) = (l ++ List.replicate m 0) ++ List.replicate (cap - n - m) 0 := by
        rw [List.append_assoc, List.replicate_append_replicate, show m + (cap - n - m) = cap - n by omega]
      rw [e] at hC2
      exact hC2.fore
  · have hge := grownCap_ge w (n + m) cap e
    have hle := grownCap_le_maxLen w (n + m) cap e (by unfold maxLen; omega)
    have h63 : ¬ (9223372036854775807 < (n : Int) + (m : Int)) := by omega
    have h48 : ¬ (281474976710656 < Builtin.nextslicecap (n + m) cap) := by
      have := growslice_fits (need := n + m) (old := cap) (bytes := 1) (by omega) (by omega)
      omega
    have hfo := run_firstCells_some (P := P) w.drew 1 n ⟨g, 0, none⟩ n cap (l.map u8v) (by rw [List.length_map, hl, Nat.mul_one]) (by
      intro j u hj
      rw [List.getElem?_map] at hj
      obtain ⟨b, hb1, hb2⟩ := Option.map_eq_some_iff.1 hj
      have hjl : j < l.length := (List.getElem?_eq_some_iff.1 hb1).1
      have e1 : (⟨g, 0, none⟩ : Addr).add j = ⟨g, j, none⟩ := by unfold Addr.add; split <;> simp_all
      rw [e1]
      have := hC.fore.at j hjl
      rw [hb1] at this
      rw [← hb2]; exact this)
    have hrun : (Builtin.append_ #[t, it] ty #[.slice (some ⟨g, 0, none⟩) n cap, .int .i64 m]).run P w =
      .ok (.slice (some ⟨w.heap.size, 0, none⟩) (n + m) (grownCap w (n + m) cap e)) (w.drew.alloc (.cells (((l ++ List.replicate m 0 ++ List.replicate (grownCap w (n + m) cap e - (n + m)) 0).map u8v).toArray) e)) := by
      have hcs : ((l ++ List.replicate m 0 ++ List.replicate (grownCap w (n + m) cap e - (n + m)) 0).map u8v).toArray = (l.map u8v).toArray ++ (Builtin.zeroCells #[.int .u8 0] m ++ Builtin.zeroCells #[.int .u8 0] (grownCap w (n + m) cap e - (n + m))) := by
        apply Array.ext'
        rw [Array.toList_append, Array.toList_append, zeroCells_one, zeroCells_one]
        simp
      rw [hcs]
      simp [Builtin.append_, run_underlying ht, run_underlying hit, sizeOf, typeInfo, zeroValue, hi, hz, hs, hb, asInt, hai, hw, h0, h1, hm0, hr, h63, h48, Addr.add_lit, Value.cells, Question.forced, hfo, newRow, grownCap]
    refine ⟨w.heap.size, grownCap w (n + m) cap e, _, hrun, by have := hC.1; omega, hge, hle, (cells_alloc w.drew _ e).fore, ?_⟩
    exact (Below.refl B w).drew.alloc (by have := hC.1; exact Nat.le_of_lt (Nat.lt_of_le_of_lt hB this)) _

/-- '[]byte(s)', with the spare room's zeros. -/
theorem wpList_bytes_spare {P : Program} {w : World} {ops : Array Oper} {rest : List Oper} {o : Oper} {a : Act} {Q : Exit → Act → World → Prop} (hg : o.guard = none) (x : Operand) (src dst e : TypeId) (hop : o.op = Op.convert src dst x)
    (hs : P.underlying src = some .string) (hd : P.underlying dst = some (.slice e)) (he : P.underlying e = some (.int .u8)) (s : ByteArray) (n : Nat) (hn : s.size = n) (hsm : n ≤ maxLen) (hx : a.eval x = .string s)
    (hK : ∀ cap w1, n ≤ cap → cap ≤ maxLen → Cells w1 w.heap.size (s.data.toList ++ List.replicate (cap - n) 0) → Below w.heap.size w w1 → w.heap.size < w1.heap.size → wpList P ops Q rest (a.put o.dst (.slice (some ⟨w.heap.size, 0, none⟩) n cap)) w1) :
    wpList P ops Q (o :: rest) a w := by
  subst hn
  refine wpList_plain hg fun K hK' => ?_
  have hrun := run_bytes_of_string (P := P) w src dst e s hs hd he
  unfold Oper.wp
  simp only [execOp, hop, hx]
  simp [hrun, Result.andThen]
  refine hK' _ _ (hK _ _ (grownCap_ge w s.size 0 e) (grownCap_le_maxLen w s.size 0 e hsm) ?_ ?_ ?_)
  · have hrow : bytesRow s (grownCap w s.size 0 e) = ((s.data.toList ++ List.replicate (grownCap w s.size 0 e - s.size) 0).map u8v).toArray := by
      apply Array.ext'
      unfold bytesRow
      simp
    refine ⟨by simp, fun i hi => ⟨?_, ?_⟩⟩
    · have := World.cell?_alloc_mark w.drew (bytesRow s (grownCap w s.size 0 e)) e ((bytesRow s (grownCap w s.size 0 e)).size, (bytesRow s (grownCap w s.size 0 e)).size + 1) i
      refine this.trans ?_
      rw [hrow]
      simp only [List.getElem?_toArray, List.getElem?_map]
      rw [List.getElem?_eq_getElem hi]; rfl
    · have := World.frozen?_alloc_mark w.drew (bytesRow s (grownCap w s.size 0 e)) e (bytesRow s (grownCap w s.size 0 e)).size ((bytesRow s (grownCap w s.size 0 e)).size + 1) i
      refine Eq.trans this ?_
      have hsz : i < (bytesRow s (grownCap w s.size 0 e)).size := by rw [hrow]; simpa using hi
      rw [decide_eq_false (by omega)]; rfl
  · exact ((Below.refl _ w).drew).alloc (Nat.le_refl _) _
  · simp

theorem wpList_append_zeros {P : Program} {w : World} {ops : Array Oper} {rest : List Oper} {o : Oper} {a : Act} {Q : Exit → Act → World → Prop} (hgd : o.guard = none) (s x : Operand) (t it e : TypeId)
    (ho : o.op = .call { callee := .builtin .append, args := #[s, x], argTypes := #[t, it] }) (ht : P.underlying t = some (.slice e)) (hit : P.underlying it = some (.int .i64)) (h2 : (P.info? e).map (fun i => (i.zero, i.size, i.bytes)) = some (some (.int .u8 0), 1, 1))
    (g n cap m : Nat) (l : List UInt8) (hl : l.length = n) (hm : 0 < m) (hsm : n + m ≤ 100000) (hc : n ≤ cap) (hcm : cap ≤ maxLen) (hC : Cells w g (l ++ List.replicate (cap - n) 0)) (B : Nat) (hB : B ≤ g)
    (hsv : a.eval s = .slice (some ⟨g, 0, none⟩) n cap) (hxv : a.eval x = .int .i64 m)
    (h : ∀ g' cap' w', B ≤ g' → n + m ≤ cap' → cap' ≤ maxLen → Cells w' g' (l ++ List.replicate m 0) → Below B w w' → wpList P ops Q rest (a.put o.dst (.slice (some ⟨g', 0, none⟩) (n + m) cap')) w') : wpList P ops Q (o :: rest) a w := by
  obtain ⟨i, hi, hz0, hz1, hz2⟩ := info_u8 h2
  refine wpList_plain hgd fun K hK => ?_
  obtain ⟨g', cap', w', hrun, r1, r2, r3, r4, r5⟩ := run_append_zeros w t it o.type e i ht hit hi hz0 hz1 hz2 g n cap m l hl hm hsm hc hcm hC B hB
  unfold Oper.wp
  simp [execOp, ho, resolve, invoke, builtin, hsv, hxv, hrun, Result.andThen]
  exact hK _ _ (h g' cap' w' r1 r2 r3 r4 r5)
end Go.Proofs.Ytjepedejclfnmaa
