/-
  Margin, and the law's frame, walked.
-/
import Derived.Test.YtafididfgljfcaaDue
import Derived.Test.YtafididfgljfcaaBy
namespace Go.Proofs.Ytafididfgljfcaa
open Go.RowKit
set_option linter.unusedVariables false

theorem cells_two (w : World) (a b : UInt8) (t : TypeId) : Cells (w.alloc (.cells #[.int .u8 a.toNat, .int .u8 b.toNat] t)) w.heap.size [a, b] := by
  refine ⟨by simp, fun i hi => ?_⟩
  have hi' : i < 2 := hi
  refine ⟨?_, by rw [World.frozen?_alloc_mark, decide_eq_false (by omega : ¬ i < 0), Bool.and_false]⟩
  rw [World.cell?_alloc_mark]
  match i, hi' with
  | 0, _ => rfl
  | 1, _ => rfl
section
variable {P : Program} {ops : Array Oper} {rest : List Oper} {o : Oper} {a : Act} {w : World} {Q : Exit → Act → World → Prop}
theorem setRow_second (w : World) (c c' : Array Value) (t : TypeId) (B : Obj) : ((w.alloc (.cells c t)).alloc B).setRow w.heap.size c' = (w.alloc (.cells c' t)).alloc B := by
  simp only [World.setRow, World.alloc]
  congr 1
  apply Array.ext_getElem?
  intro i
  rw [Array.getElem?_modify]
  by_cases h : w.heap.size = i
  · subst h
    simp [Array.getElem?_push]
  · have h' : ¬ i = w.heap.size := fun e => h e.symm
    simp [h, h', Array.getElem?_push]
theorem wpList_store_b2 (hgd : o.guard = none) (ty : TypeId) (x y : Operand) (ho : o.op = .store ty x y)
    (w0 : World) (old : Array Value) (cells : List Value) (B : Obj) (N : Nat) (hw : w = (w0.alloc (.cells old ty)).alloc B) (hx : a.eval x = .pointer (some ⟨N, 0, none⟩)) (hN : w0.heap.size = N) (hy : a.eval y = .agg cells.toArray) (hi : (P.info? ty).map (·.size) = some cells.length)
    (hold : old.size = cells.length) (h1 : ∀ v ∈ cells, v.oneCell' = true) (h : wpList P ops Q rest (a.put o.dst undef) ((w0.alloc (.cells cells.toArray ty)).alloc B)) : wpList P ops Q (o :: rest) a w := by
  subst hw hN
  refine wpList_store_row hgd ty x y ho w0.heap.size cells.toArray hx hy ty old ?_ (by rw [hi, List.size_toArray]) (by rw [List.size_toArray]; exact hold) (all_oneCell_toArray h1) ?_
  · exact (Below.heap_alloc _ _ _ (by simp)).trans (heap_alloc_last w0 _)
  · rw [setRow_second]; exact h
theorem wpList_str (hgd : o.guard = none) (src dst e : TypeId) (x : Operand) (ho : o.op = .convert src dst x) (hs : P.underlying src = some (.slice e)) (he : P.underlying e = some (.int .u8)) (hd : P.underlying dst = some .string)
    (g n cap : Nat) (l : List UInt8) (hx : a.eval x = .slice (some ⟨g, 0, none⟩) n cap) (hC : Cells w g l) (hn : l.length = n) (h : wpList P ops Q rest (a.put o.dst (.string ⟨l.toArray⟩)) w) : wpList P ops Q (o :: rest) a w := by
  refine wpList_plain hgd fun _ hK => ?_
  unfold Oper.wp execOp
  simp only [ho, hx, Sem.run_bind, run_str w src dst e g n cap l hs he hd hC hn, Result.andThen_ok]
  exact hK _ _ h
end
set_option maxRecDepth 100000 in
set_option maxHeartbeats 1000000 in
theorem margin_any (d u c : Int) (w : World) (h0 : 0 ≤ c) (h1 : c ≤ 52) :
    Calls Try.prog 16 #[.agg #[.int .i64 d, .int .i64 u, .int .i64 c]] w fun e w' => e = .returned (.int .i64 (max 0 (4 - c))) ∧ Below w.heap.size w w' := by
  have hB := (Below.refl w.heap.size w).alloc (Nat.le_refl _) (.cells #[.int .i64 d, .int .i64 u, .int .i64 c] 41)
  have HB := Lib.hid hB
  clear hB
  go_enter Try.func16, Try.ntmps16
  by_cases hc : c < 4
  · have e1 : max 0 (4 - c) = 4 - c := by omega
    have h5 : 0 < 4 - c := by omega
    rw [e1]
    go_wp2
    go_ret
    exact ⟨rfl, HB.out⟩
  · have e1 : max 0 (4 - c) = 0 := by omega
    have h5 : ¬ 0 < 4 - c := by omega
    rw [e1]
    go_wp2
    go_ret
    exact ⟨rfl, HB.out⟩
def lawFr (r i : UInt8) (d s : Int) : Fr := ⟨66, (r.toNat : Int), 1, (i.toNat : Int), 0, d, s, 0, ⟨#[r, i]⟩⟩
set_option maxRecDepth 100000 in
set_option maxHeartbeats 1000000 in
theorem frame_any (r i : UInt8) (d s : Int) (w : World) :
    Calls Try.prog 19 #[.int .i64 (r.toNat : Int), .int .i64 (i.toNat : Int), .agg #[.int .i64 d, .int .i64 s]] w fun e w' => e = .returned (lawFr r i d s).v ∧ Below w.heap.size w w' := by
  have hr : r.toNat < 256 := r.toNat_lt
  have hi : i.toNat < 256 := i.toNat_lt
  go_enter Try.func19, Try.ntmps19
  have HC : Hid (Cells (((w.alloc (.cells #[.int .i64 d, .int .i64 s] 36)).alloc (.cells #[.int .i64 0, .int .i64 0, .int .i64 0, .int .i64 0, .int .i64 0, .int .i64 0, .int .i64 0, .int .u32 0, .string { data := #[] }] 39)).alloc (.cells #[.int .u8 (r.toNat : Int), .int .u8 (i.toNat : Int)] 5)) (w.heap.size + 1 + 1) [r, i]) := by
    have := cells_two ((w.alloc (.cells #[.int .i64 d, .int .i64 s] 36)).alloc (.cells #[.int .i64 0, .int .i64 0, .int .i64 0, .int .i64 0, .int .i64 0, .int .i64 0, .int .i64 0, .int .u32 0, .string { data := #[] }] 39)) r i 5
    have e1 : ((w.alloc (.cells #[.int .i64 d, .int .i64 s] 36)).alloc (.cells #[.int .i64 0, .int .i64 0, .int .i64 0, .int .i64 0, .int .i64 0, .int .i64 0, .int .i64 0, .int .u32 0, .string { data := #[] }] 39)).heap.size = w.heap.size + 1 + 1 := by simp
    rw [e1] at this; exact this
  have HN1 : (w.alloc (.cells #[.int .i64 d, .int .i64 s] 36)).heap.size = w.heap.size + 1 := by simp
  have HF : Hid (((((w.alloc (.cells #[.int .i64 d, .int .i64 s] 36)).alloc (.cells (lawFr r i d s).cs.toArray 39)).alloc (.cells #[.int .u8 (r.toNat : Int), .int .u8 (i.toNat : Int)] 5)).heap[w.heap.size + 1]?) = some (.cells (lawFr r i d s).cs.toArray 39)) := by
    unfold Hid
    rw [← HN1]
    exact (Below.heap_alloc _ _ _ (by simp)).trans (heap_alloc_last _ _)
  have HB : Hid (Below w.heap.size w (((w.alloc (.cells #[.int .i64 d, .int .i64 s] 36)).alloc (.cells (lawFr r i d s).cs.toArray 39)).alloc (.cells #[.int .u8 (r.toNat : Int), .int .u8 (i.toNat : Int)] 5))) := (((Below.refl _ w).alloc (Nat.le_refl _) _).alloc (by simp) _).alloc (by simp; omega) _
  go_wp2_with first
    | refine wpList_str rfl 69 9 5 _ rfl Try.underlying69 Try.underlying5 Try.underlying9 (w.heap.size + 1 + 1) 2 2 [r, i] rfl HC.out rfl ?_
    | refine wpList_store_b2 rfl 39 _ _ rfl (w.alloc (.cells #[.int .i64 d, .int .i64 s] 36)) _ (lawFr r i d s).cs _ (w.heap.size + 1) rfl rfl HN1 rfl Try.size39 rfl (Fr.ones _) ?_
  (try simp only [Exit.inBlock, Exit.then])
  refine bodyPost_ret (results_cell_row rfl _ _ (w.heap.size + 1) 39 (lawFr r i d s).cs.toArray (0, 0) _ rfl HF.out Try.underlying39 rfl Try.size39) rfl ?_
  exact ⟨rfl, HB.out⟩
end Go.Proofs.Ytafididfgljfcaa
