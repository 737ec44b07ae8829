/-
  Frames and groups as plain data, their cells, and that both may be keys.
-/
import Derived.Test.YtafididfgljfcaaMap
import Derived.Test.YtafididfgljfcaaProg
import Derived.DeepKeys4
import Derived.Deep.MidRow
import Derived.KernelRfl
namespace Go.Proofs.Ytafididfgljfcaa
open Go.RowKit
open Go.Maps (Keyed)
set_option linter.unusedVariables false

structure Fr where
  kind : Int
  reel : Int
  session : Int
  index : Int
  length : Int
  data : Int
  spare : Int
  archive : Int
  pay : ByteArray
deriving DecidableEq
abbrev iv (n : Int) : Value := .int .i64 n
def Fr.cs (f : Fr) : List Value := [iv f.kind, iv f.reel, iv f.session, iv f.index, iv f.length, iv f.data, iv f.spare, .int .u32 f.archive, .string f.pay]
def Fr.v (f : Fr) : Value := .agg f.cs.toArray
structure Fr.Ok (f : Fr) : Prop where
  kind : (Lit.int .i64 f.kind).wf = true
  reel : (Lit.int .i64 f.reel).wf = true
  session : (Lit.int .i64 f.session).wf = true
  index : (Lit.int .i64 f.index).wf = true
  length : (Lit.int .i64 f.length).wf = true
  data : (Lit.int .i64 f.data).wf = true
  spare : (Lit.int .i64 f.spare).wf = true
  archive : (Lit.int .u32 f.archive).wf = true
  pay : f.pay.size ≤ maxLen
structure Gr where
  archive : Int
  session : Int
  kind : Int
  index : Int
deriving DecidableEq
def Gr.v (g : Gr) : Value := .agg #[.int .u32 g.archive, iv g.session, iv g.kind, iv g.index]
structure Gr.Ok (g : Gr) : Prop where
  archive : (Lit.int .u32 g.archive).wf = true
  session : (Lit.int .i64 g.session).wf = true
  kind : (Lit.int .i64 g.kind).wf = true
  index : (Lit.int .i64 g.index).wf = true
def Fr.group (f : Fr) : Gr := ⟨f.archive, f.session, f.kind, f.index⟩
theorem Fr.Ok.group {f : Fr} (h : f.Ok) : f.group.Ok := ⟨h.archive, h.session, h.kind, h.index⟩

theorem Fr.inj {f g : Fr} (h : f.v = g.v) : f = g := by
  cases f; cases g
  simp [Fr.v, Fr.cs] at h
  simp [h]
theorem Gr.inj {f g : Gr} (h : f.v = g.v) : f = g := by
  cases f; cases g
  simp [Gr.v] at h
  simp [h]

theorem lawF : WideMaps.KeyLaw Try.prog 39 := deep_law_laid (by kernel_rfl) (m := 3) (by omega) (of_decide_eq_true (by kernel_rfl)) (by kernel_rfl) (by rw [Try.underlying39])
theorem lawG : WideMaps.KeyLaw Try.prog 66 := deep_law_laid (by kernel_rfl) (m := 3) (by omega) (of_decide_eq_true (by kernel_rfl)) (by kernel_rfl) (by rw [Try.underlying66])
theorem sz9 : ∃ m, Try.prog.types.size = m + 9 := ⟨Try.prog.types.size - 9, by have : 9 ≤ Try.prog.types.size := of_decide_eq_true (by kernel_rfl); omega⟩
theorem kl_int {P : Program} {t : TypeId} {q : IntKind} {n : Int} {cs : List Value} (d : Nat) (hu : P.underlying t = some (.int q)) (hcs : cs = [.int q n]) (h : (Lit.int q n).wf = true) : ∃ l, P.keyLits (d + 1) t cs = some l := by
  refine ⟨[.int q n], ?_⟩
  subst hcs
  unfold Program.keyLits
  rw [hu]
  simp only [h, and_self, if_true]
theorem kl_str {P : Program} {t : TypeId} {s : ByteArray} {cs : List Value} (d : Nat) (hu : P.underlying t = some .string) (hcs : cs = [.string s]) (h : s.size ≤ maxLen) : ∃ l, P.keyLits (d + 1) t cs = some l := by
  refine ⟨[.string s.data.toList], ?_⟩
  subst hcs
  unfold Program.keyLits
  rw [hu]
  simp only [h, if_true]
theorem mapM_some {α β : Type} (g : α → Option β) : ∀ l : List α, (∀ x ∈ l, ∃ y, g x = some y) → ∃ ys, l.mapM g = some ys
  | [], _ => ⟨[], rfl⟩
  | x :: l, h => by
    obtain ⟨y, hy⟩ := h x (by simp)
    obtain ⟨ys, hys⟩ := mapM_some g l (fun z hz => h z (by simp [hz]))
    exact ⟨y :: ys, by rw [List.mapM_cons, hy, hys]; rfl⟩
theorem kl_struct {P : Program} {t : TypeId} {fs : Array Field} {cs : List Value} (d : Nat) (hu : P.underlying t = some (.struct fs)) (hc : cs.length = P.cellsOf t) (hn : fs.all (·.name != "_") = true)
    (h : ∀ f ∈ fs.toList, ∃ l, P.keyLits d f.type ((cs.drop f.offset).take (P.cellsOf f.type)) = some l) : ∃ l, P.keyLits (d + 1) t cs = some l := by
  obtain ⟨ys, hys⟩ := mapM_some _ fs.toList h
  refine ⟨ys.flatten, ?_⟩
  unfold Program.keyLits
  rw [hu]
  simp only [hc, hn, and_self, if_true]
  rw [hys]; rfl
theorem key_struct {P : Program} {t : TypeId} {fs : Array Field} {cs : Array Value} (hk : P.keyType t = true) (hu : P.underlying t = some (.struct fs)) (hc : cs.size = P.cellsOf t) (h : ∃ l, P.keyLits (P.types.size + 1) t cs.toList = some l) : ∃ l, keyOf P t (.agg cs) = some l := by
  obtain ⟨l, hl⟩ := h
  refine ⟨.string (keyBytes l), ?_⟩
  unfold keyOf
  rw [hu]
  have e1 : Value.formed P t (.agg cs) = true := by unfold Value.formed; rw [hu]; simp [hc]
  simp only [hk, e1, Bool.and_self, if_true]
  have e2 : (Value.agg cs).cells = cs := rfl
  rw [e2, hl]; rfl
theorem Fr.Ok.key {f : Fr} (h : f.Ok) : ∃ l, keyOf Try.prog 39 f.v = some l := by
  have hk : Try.prog.keyType 39 = true := by kernel_rfl
  have hc : Try.prog.cellsOf 39 = 9 := by kernel_rfl
  have hc36 : Try.prog.cellsOf 36 = 2 := by kernel_rfl
  have hc3 : Try.prog.cellsOf 3 = 1 := by kernel_rfl
  have hc9 : Try.prog.cellsOf 9 = 1 := by kernel_rfl
  have hc37 : Try.prog.cellsOf 37 = 1 := by kernel_rfl
  obtain ⟨m, hm⟩ := sz9
  obtain ⟨h1, h2, h3, h4, h5, h6, h7, h8, hs⟩ := h
  refine key_struct hk Try.underlying39 (by rw [hc]; rfl) ?_
  rw [hm]
  refine kl_struct _ Try.underlying39 (by rw [hc]; rfl) (by kernel_rfl) ?_
  intro g hg
  simp only [List.mem_cons, List.not_mem_nil, or_false] at hg
  rcases hg with rfl | rfl | rfl | rfl | rfl | rfl | rfl | rfl
  · exact kl_int _ Try.underlying3 (by rw [hc3]; rfl) h1
  · exact kl_int _ Try.underlying3 (by rw [hc3]; rfl) h2
  · exact kl_int _ Try.underlying3 (by rw [hc3]; rfl) h3
  · exact kl_int _ Try.underlying3 (by rw [hc3]; rfl) h4
  · exact kl_int _ Try.underlying3 (by rw [hc3]; rfl) h5
  · refine kl_struct _ Try.underlying36 (by rw [hc36]; rfl) (by kernel_rfl) ?_
    intro g hg
    simp only [List.mem_cons, List.not_mem_nil, or_false] at hg
    rcases hg with rfl | rfl
    · exact kl_int _ Try.underlying3 (by rw [hc36, hc3]; rfl) h6
    · exact kl_int _ Try.underlying3 (by rw [hc36, hc3]; rfl) h7
  · exact kl_int _ Try.underlying37 (by rw [hc37]; rfl) h8
  · exact kl_str _ Try.underlying9 (by rw [hc9]; rfl) hs
theorem Gr.Ok.key {g : Gr} (h : g.Ok) : ∃ l, keyOf Try.prog 66 g.v = some l := by
  have hk : Try.prog.keyType 66 = true := by kernel_rfl
  have hc : Try.prog.cellsOf 66 = 4 := by kernel_rfl
  have hc3 : Try.prog.cellsOf 3 = 1 := by kernel_rfl
  have hc37 : Try.prog.cellsOf 37 = 1 := by kernel_rfl
  obtain ⟨m, hm⟩ := sz9
  obtain ⟨h1, h2, h3, h4⟩ := h
  refine key_struct hk Try.underlying66 (by rw [hc]; rfl) ?_
  rw [hm]
  refine kl_struct _ Try.underlying66 (by rw [hc]; rfl) (by kernel_rfl) ?_
  intro f hf
  simp only [List.mem_cons, List.not_mem_nil, or_false] at hf
  rcases hf with rfl | rfl | rfl | rfl
  · exact kl_int _ Try.underlying37 (by rw [hc37]; rfl) h1
  · exact kl_int _ Try.underlying3 (by rw [hc3]; rfl) h2
  · exact kl_int _ Try.underlying3 (by rw [hc3]; rfl) h3
  · exact kl_int _ Try.underlying3 (by rw [hc3]; rfl) h4
theorem encF : Enc Try.prog 39 Fr.v := ⟨Keyed.of_law lawF, fun _ _ => Fr.inj⟩
theorem encG : Enc Try.prog 66 Gr.v := ⟨Keyed.of_law lawG, fun _ _ => Gr.inj⟩
end Go.Proofs.Ytafididfgljfcaa
