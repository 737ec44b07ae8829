/-
  Rows of bytes in memory, read off by their cells: what the operations on []byte do to them, over any program.
-/
import Derived.WalkKit
import Derived.WalkSpells
import Derived.WalkLawsBesides
import Derived.Lib.Hide
import Derived.Handy
import Derived.BigQuiet
import Derived.Deep.QuietTactic
namespace Go.Proofs.Ytamkahjdedomlaa
open Go.RowKit
set_option linter.unusedVariables false

/-- A byte as a value. -/
abbrev u8v (b : UInt8) : Value := .int .u8 (b.toNat : Int)

/-- The block g begins with the bytes l, none of them frozen. -/
def Cells (w : World) (g : Nat) (l : List UInt8) : Prop :=
  g < w.heap.size ∧ ∀ i, i < l.length → w.cell? ⟨g, i, none⟩ = some (.int .u8 ((l[i]?.getD 0).toNat : Int)) ∧ w.frozen? ⟨g, i, none⟩ = false

theorem Cells.at {w : World} {g : Nat} {l : List UInt8} (h : Cells w g l) (i : Nat) (hi : i < l.length) : w.cell? ⟨g, i, none⟩ = some (.int .u8 ((l[i]?.getD 0).toNat : Int)) := (h.2 i hi).1
theorem Cells.free {w : World} {g : Nat} {l : List UInt8} (h : Cells w g l) (i : Nat) (hi : i < l.length) : w.frozen? ⟨g, i, none⟩ = false := (h.2 i hi).2
theorem Cells.below {B : Nat} {w w' : World} {g : Nat} {l : List UInt8} (h : Cells w g l) (hb : Below B w w') (hg : g < B) : Cells w' g l :=
  ⟨Nat.lt_of_lt_of_le h.1 hb.size, fun i hi => ⟨(hb.cell (p := ⟨g, i, none⟩) hg).trans (h.at i hi), (hb.frozen (p := ⟨g, i, none⟩) hg).trans (h.free i hi)⟩⟩
theorem Cells.kept {w w' : World} {g : Nat} {l : List UInt8} (h : Cells w g l) (hb : Below w.heap.size w w') : Cells w' g l := h.below hb h.1
theorem Cells.same {w w' : World} {g : Nat} {l : List UInt8} (h : Cells w g l) (hz : w.heap.size ≤ w'.heap.size) (e : w'.heap[g]? = w.heap[g]?) : Cells w' g l :=
  ⟨Nat.lt_of_lt_of_le h.1 hz, fun i hi => ⟨(World.cell?_of_block (w := w) e).trans (h.at i hi), (World.frozen?_of_block (w := w) e).trans (h.free i hi)⟩⟩
theorem Cells.drewN {w : World} {g : Nat} {l : List UInt8} (h : Cells w g l) (n : Nat) : Cells (w.drewN n) g l := h
theorem Cells.other {w : World} {g : Nat} {l : List UInt8} (h : Cells w g l) (a : Addr) (ha : a.block ≠ g) (v : Value) : Cells (w.setCell a v) g l :=
  h.same (by simp [World.setCell]) (Below.heap_setCell w a v g (fun e => ha e.symm))
theorem Cells.alloc {w : World} {g : Nat} {l : List UInt8} (h : Cells w g l) (o : Obj) : Cells (w.alloc o) g l :=
  h.same (by simp) (Below.heap_alloc w o g h.1)
theorem size_setCell (w : World) (a : Addr) (v : Value) : (w.setCell a v).heap.size = w.heap.size := by simp [World.setCell]
theorem Cells.set {w : World} {g : Nat} {l : List UInt8} (h : Cells w g l) (j : Nat) (hj : j < l.length) (b : UInt8) : Cells (w.setCell ⟨g, j, none⟩ (.int .u8 (b.toNat : Int))) g (l.set j b) := by
  refine ⟨by rw [size_setCell]; exact h.1, fun i hi => ?_⟩
  rw [List.length_set] at hi
  refine ⟨?_, (World.frozen?_setCell _ _ _ _).trans (h.free i hi)⟩
  by_cases e : j = i
  · subst e
    rw [World.cell?_setCell_same' _ _ _ (by rw [h.at j hj]; rfl)]
    rw [List.getElem?_set_self hj]; rfl
  · have : (w.setCell ⟨g, j, none⟩ (.int .u8 (b.toNat : Int))).cell? ⟨g, i, none⟩ = w.cell? ⟨g, i, none⟩ := World.cell?_setCell_other _ _ _ _ (fun c => e (by injection c))
    rw [this, h.at i hi, List.getElem?_set_ne e]

/-- '[]byte(s)': a new row with the string's bytes. -/
theorem wpList_bytes {P : Program} {w : World} {ops : Array Oper} {rest : List Oper} {o : Oper} {a : Act} {Q : Exit → Act → World → Prop} (hg : o.guard = none) (x : Operand) (src dst e : TypeId) (hop : o.op = Op.convert src dst x)
    (hs : P.underlying src = some .string) (hd : P.underlying dst = some (.slice e)) (he : P.underlying e = some (.int .u8)) (s : ByteArray) (n : Nat) (hn : s.size = n) (hx : a.eval x = .string s)
    (hK : ∀ cap w1, n ≤ cap → Cells w1 w.heap.size s.data.toList → Below w.heap.size w w1 → w.heap.size < w1.heap.size → wpList P ops Q rest (a.put o.dst (.slice (some ⟨w.heap.size, 0, none⟩) n cap)) w1) :
    wpList P ops Q (o :: rest) a w := by
  subst hn
  refine wpList_plain hg fun K hK' => ?_
  have hrun := run_bytes_of_string (P := P) w src dst e s hs hd he
  unfold Oper.wp
  simp only [execOp, hop, hx]
  simp [hrun, Result.andThen]
  refine hK' _ _ (hK _ _ (grownCap_ge w s.size 0 e) ?_ ?_ ?_)
  · refine ⟨by simp, fun i hi => ?_⟩
    have hi' : i < s.data.size := by simpa using hi
    refine ⟨?_, ?_⟩
    · have := World.cell?_alloc_mark w.drew (bytesRow s (grownCap w s.size 0 e)) e ((bytesRow s (grownCap w s.size 0 e)).size, (bytesRow s (grownCap w s.size 0 e)).size + 1) i
      rw [bytesRow_at s _ i hi'] at this
      rw [Array.getElem?_toList, Array.getElem?_eq_getElem hi']
      exact this
    · have := World.frozen?_alloc_mark w.drew (bytesRow s (grownCap w s.size 0 e)) e (bytesRow s (grownCap w s.size 0 e)).size ((bytesRow s (grownCap w s.size 0 e)).size + 1) i
      refine Eq.trans this ?_
      have e0 : s.data.size = s.size := rfl
      have hsz : i < (bytesRow s (grownCap w s.size 0 e)).size := by simp [bytesRow]; omega
      rw [decide_eq_false (by omega)]; rfl
  · exact ((Below.refl _ w).drew).alloc (Nat.le_refl _) _
  · simp

/-- 'string(b)'. -/
theorem run_str {P : Program} (w : World) (src dst e : TypeId) (g n cap : Nat) (l : List UInt8) (hs : P.underlying src = some (.slice e)) (he : P.underlying e = some (.int .u8)) (hd : P.underlying dst = some .string)
    (h : Cells w g l) (hn : l.length = n) : (convert src dst (.slice (some ⟨g, 0, none⟩) n cap)).run P w = .ok (.string ⟨l.toArray⟩) w := by
  subst hn
  refine run_convert_bytes_back w src dst e ⟨g, 0, none⟩ cap l hs he hd fun j hj => ?_
  have := h.at j hj
  rw [List.getElem?_eq_getElem hj] at this
  have e : (⟨g, 0, none⟩ : Addr).add j = ⟨g, j, none⟩ := by unfold Addr.add; split <;> simp_all
  rw [e]; exact this

/-- Tests on bytes, as the walk spells them. -/
theorem u8_ne (x c : UInt8) (n : Int) (hn : n = (c.toNat : Int)) (h : x ≠ c) : ((x.toNat : Int) == n) = false :=
  beq_eq_false_iff_ne.2 fun e => h (UInt8.toNat_inj.1 (by omega))
theorem u8_eq (x c : UInt8) (n : Int) (hn : n = (c.toNat : Int)) (h : x = c) : ((x.toNat : Int) == n) = true := by
  subst h; subst hn; simp
theorem bxor (x y : UInt8) : bits .xor .u8 (x.toNat : Int) (y.toNat : Int) = ((x ^^^ y).toNat : Int) := by
  rw [u8_xor_nat _ _ x.toNat_lt y.toNat_lt, UInt8.toNat_xor]
end Go.Proofs.Ytamkahjdedomlaa
