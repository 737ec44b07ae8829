/-
  groupOf, walked; the state of Safe in memory.
-/
import Derived.Test.YtafididfgljfcaaSafeP
import Derived.Test.YtafididfgljfcaaROne
import Derived.Test.YtafididfgljfcaaRng
import Derived.Test.YtafididfgljfcaaCnt
namespace Go.Proofs.Ytafididfgljfcaa
open Go.RowKit
set_option linter.unusedVariables false
def Gr.cs (g : Gr) : List Value := [.int .u32 g.archive, .int .i64 g.session, .int .i64 g.kind, .int .i64 g.index]
theorem Gr.ones (g : Gr) : ∀ v ∈ g.cs, v.oneCell' = true := by
  intro v hv
  simp only [Gr.cs, List.mem_cons, List.not_mem_nil, or_false] at hv
  rcases hv with rfl | rfl | rfl | rfl <;> rfl
theorem Try.size66 : (Try.prog.info? 66).map (·.size) = some 4 := by kernel_rfl
theorem bGr (a s k i : Int) : Try.prog.built 66 [(0, .int .u32 a), (1, .int .i64 s), (2, .int .i64 k), (3, .int .i64 i)] = some (Gr.cs ⟨a, s, k, i⟩).toArray := by kernel_rfl
set_option maxRecDepth 100000 in
set_option maxHeartbeats 1000000 in
theorem groupOf_any (f : Fr) (w : World) : Calls Try.prog 26 #[f.v] w fun e w' => e = .returned f.group.v ∧ Below w.heap.size w w' := by
  unfold Fr.v
  go_enter Try.func26, Try.ntmps26
  have hs1 : (w.alloc (.cells f.cs.toArray 39)).heap.size = w.heap.size + 1 := by simp
  have HB : Hid (Below w.heap.size w ((w.alloc (.cells f.cs.toArray 39)).alloc (.cells f.group.cs.toArray 66))) := ((Below.refl _ _).alloc (Nat.le_refl _) _).alloc (by simp) _
  have HH : Hid (((w.alloc (.cells f.cs.toArray 39)).alloc (.cells f.group.cs.toArray 66)).heap[w.heap.size + 1]? = some (.cells f.group.cs.toArray 66)) := by
    unfold Hid
    rw [← hs1]; exact heap_alloc_last _ _
  go_wp2_with first
    | refine wpList_load_f2 rfl 37 _ rfl Try.isAgg37 w _ _ _ w.heap.size _ _ rfl rfl rfl rfl ?_
    | refine wpList_load_f2 rfl 3 _ rfl Try.isAgg3 w _ _ _ w.heap.size _ _ rfl rfl rfl rfl ?_
    | refine wpList_build_of rfl 66 _ rfl _ [(0, .int .u32 f.archive), (1, .int .i64 f.session), (2, .int .i64 f.kind), (3, .int .i64 f.index)] rfl (bGr _ _ _ _) ?_
    | refine wpList_store_b rfl 66 _ _ rfl (w.alloc (.cells f.cs.toArray 39)) _ f.group.cs (w.heap.size + 1) rfl rfl hs1 rfl Try.size66 rfl (Gr.ones _) ?_
  (try simp only [Exit.inBlock, Exit.then])
  refine bodyPost_ret (results_cell_row rfl _ _ (w.heap.size + 1) 66 f.group.cs.toArray (0, 0) _ rfl HH.out Try.underlying66 rfl Try.size66) rfl ?_
  exact ⟨rfl, HB.out⟩

/-! The two maps of Safe: the needs (block N), and the reels of each group (block R), each a map of its own. -/
abbrev Inn := Nat × List (Int × Bool)
def Inn.v (p : Inn) : Value := .map (some p.1)
/-- What is kept of the reels, without the blocks. -/
def bare (T : List (Gr × Inn)) : List (Gr × List (Int × Bool)) := T.map fun x => (x.1, x.2.2)
theorem getK_bare (T : List (Gr × Inn)) (g : Gr) : getK (bare T) g = (getK T g).map (·.2) := by
  induction T with
  | nil => rfl
  | cons p T ih =>
    obtain ⟨y, M, m⟩ := p
    simp only [bare, List.map_cons, getK]
    by_cases h : y = g
    · rw [if_pos h, if_pos h]; rfl
    · rw [if_neg h, if_neg h]; exact ih
theorem bare_put (T : List (Gr × Inn)) (g : Gr) (M : Nat) (m : List (Int × Bool)) : bare (putK T g (M, m)) = putK (bare T) g m := by
  induction T with
  | nil => rfl
  | cons p T ih =>
    obtain ⟨y, M', m'⟩ := p
    simp only [putK]
    by_cases h : y = g
    · rw [if_pos h]; simp only [bare, List.map_cons, putK]; rw [if_pos h]
    · rw [if_neg h]; simp only [bare, List.map_cons, putK]; rw [if_neg h]; exact congrArg _ ih
/-- The pointers of the outer map do not turn where an inner map does. -/
theorem put_same (T : List (Gr × Inn)) (g : Gr) (M : Nat) (m m' : List (Int × Bool)) (h : getK T g = some (M, m)) : (putK T g (M, m')).map (fun p => (Gr.v p.1, Inn.v p.2)) = T.map fun p => (Gr.v p.1, Inn.v p.2) := by
  induction T with
  | nil => cases h
  | cons p T ih =>
    obtain ⟨y, M', m2⟩ := p
    simp only [getK] at h
    simp only [putK]
    by_cases c : y = g
    · rw [if_pos c] at h ⊢
      cases h
      simp only [List.map_cons]
      rw [c]; rfl
    · rw [if_neg c] at h ⊢
      simp only [List.map_cons]
      rw [ih h]
theorem MapIs.relabel {κ α : Type} {w : World} {P : Program} {kt : TypeId} {ek : κ → Value} {ev : α → Value} {b : Nat} {l l' : List (κ × α)} (h : MapIs w P kt ek ev b l) (he : l'.map (fun p => (ek p.1, ev p.2)) = l.map fun p => (ek p.1, ev p.2)) : MapIs w P kt ek ev b l' := by
  obtain ⟨es, clock, hb, h1, h2, h3, h4⟩ := h
  refine ⟨es, clock, hb, h1.trans he.symm, h2, h3, fun p hp => ?_⟩
  have : (ek p.1, ev p.2) ∈ l'.map (fun p => (ek p.1, ev p.2)) := List.mem_map.2 ⟨p, hp, rfl⟩
  rw [he] at this
  obtain ⟨q, hq, e⟩ := List.mem_map.1 this
  obtain ⟨lit, hlit⟩ := h4 q hq
  exact ⟨lit, by rw [← (Prod.mk.inj e).1]; exact hlit⟩
structure SfRel (B : Nat) (w0 : World) (found : List (Fr × Int)) (F N R : Nat) (a : Option Addr) (off : Nat) (fs : List Fr) (Nl : List (Gr × Int)) (T : List (Gr × Inn)) (wr : World) : Prop where
  found : MapIs wr Try.prog 39 Fr.v iv F found
  need : MapIs wr Try.prog 66 Gr.v iv N Nl
  outer : MapIs wr Try.prog 66 Gr.v Inn.v R T
  inner : ∀ g p, getK T g = some p → MapIs wr Try.prog 3 iv Value.bool p.1 p.2 ∧ R < p.1
  apart : ∀ g g' p p', getK T g = some p → getK T g' = some p' → p.1 = p'.1 → g = g'
  rows : RowsAt 9 Fr.cs wr a off fs
  below : Below B w0 wr
  order : B ≤ F ∧ F < N ∧ N < R
section
variable {B : Nat} {w0 : World} {found : List (Fr × Int)} {F N R : Nat} {a : Option Addr} {off : Nat} {fs : List Fr} {Nl : List (Gr × Int)} {T : List (Gr × Inn)} {wr w' : World}
theorem SfRel.kept (h : SfRel B w0 found F N R a off fs Nl T wr) (hb : Below wr.heap.size wr w') : SfRel B w0 found F N R a off fs Nl T w' :=
  ⟨h.found.kept hb, h.need.kept hb, h.outer.kept hb, fun g p hg => ⟨(h.inner g p hg).1.kept hb, (h.inner g p hg).2⟩, h.apart, h.rows.kept hb, h.below.trans (hb.mono (by have := h.found.lt; have := h.order.1; omega)), h.order⟩
theorem SfRel.turnNeed (h : SfRel B w0 found F N R a off fs Nl T wr) {Nl' : List (Gr × Int)} (hm : MapIs w' Try.prog 66 Gr.v iv N Nl') (hg : wr.grownBy w' (some N)) : SfRel B w0 found F N R a off fs Nl' T w' := by
  obtain ⟨o1, o2, o3⟩ := h.order
  have hN := h.need.lt
  refine ⟨h.found.grown hg (fun e => ?_), hm, h.outer.grown hg (fun e => ?_), fun g p hp => ⟨(h.inner g p hp).1.grown hg (fun e => ?_), (h.inner g p hp).2⟩, h.apart, h.rows.map Fr.len (by omega) h.need hg, bd_grown h.below hg (by omega) (by omega), h.order⟩
  · have := Option.some.inj e; omega
  · have := Option.some.inj e; omega
  · have := Option.some.inj e; have := (h.inner g p hp).2; omega
theorem SfRel.turnOuter (h : SfRel B w0 found F N R a off fs Nl T wr) {M : Nat} {g : Gr} (hm : MapIs w' Try.prog 66 Gr.v Inn.v R (putK T g (M, []))) (hg : wr.grownBy w' (some R)) (hi : MapIs wr Try.prog 3 iv Value.bool M []) (hnew : R < M) (hfresh : ∀ g' p, getK T g' = some p → p.1 < M) : SfRel B w0 found F N R a off fs Nl (putK T g (M, [])) w' := by
  obtain ⟨o1, o2, o3⟩ := h.order
  have hR := h.outer.lt
  refine ⟨h.found.grown hg (fun e => ?_), h.need.grown hg (fun e => ?_), hm, fun g' p hp => ?_, fun g1 g2 p1 p2 h1 h2 he => ?_, h.rows.map Fr.len (by omega) h.outer hg, bd_grown h.below hg (by omega) (by omega), h.order⟩
  · have := Option.some.inj e; omega
  · have := Option.some.inj e; omega
  · rw [getK_put] at hp
    by_cases c : g' = g
    · rw [if_pos c] at hp; cases hp
      exact ⟨hi.grown hg (fun e => by have := Option.some.inj e; omega), hnew⟩
    · rw [if_neg c] at hp
      exact ⟨(h.inner g' p hp).1.grown hg (fun e => by have := Option.some.inj e; have := (h.inner g' p hp).2; omega), (h.inner g' p hp).2⟩
  · rw [getK_put] at h1 h2
    by_cases c1 : g1 = g
    · by_cases c2 : g2 = g
      · rw [c1, c2]
      · rw [if_pos c1] at h1; rw [if_neg c2] at h2; cases h1
        have := hfresh g2 p2 h2; simp only at he; omega
    · by_cases c2 : g2 = g
      · rw [if_neg c1] at h1; rw [if_pos c2] at h2; cases h2
        have := hfresh g1 p1 h1; simp only at he; omega
      · rw [if_neg c1] at h1; rw [if_neg c2] at h2
        exact h.apart g1 g2 p1 p2 h1 h2 he
theorem SfRel.turnInner (h : SfRel B w0 found F N R a off fs Nl T wr) {M : Nat} {m m' : List (Int × Bool)} {g : Gr} (hgk : getK T g = some (M, m)) (hm : MapIs w' Try.prog 3 iv Value.bool M m') (hg : wr.grownBy w' (some M)) : SfRel B w0 found F N R a off fs Nl (putK T g (M, m')) w' := by
  obtain ⟨o1, o2, o3⟩ := h.order
  obtain ⟨i1, i2⟩ := h.inner g _ hgk
  simp only at i2
  have hM := i1.lt
  have hf := h.found.lt
  refine ⟨h.found.grown hg (fun e => ?_), h.need.grown hg (fun e => ?_), (h.outer.grown hg (fun e => ?_)).relabel (put_same T g M m m' hgk), fun g' p hp => ?_, fun g1 g2 p1 p2 h1 h2 he => ?_, h.rows.map Fr.len (by omega) i1 hg, bd_grown h.below hg (by omega) (by omega), h.order⟩
  · have := Option.some.inj e; omega
  · have := Option.some.inj e; omega
  · have := Option.some.inj e; omega
  · rw [getK_put] at hp
    by_cases c : g' = g
    · rw [if_pos c] at hp; cases hp
      exact ⟨hm, i2⟩
    · rw [if_neg c] at hp
      refine ⟨(h.inner g' p hp).1.grown hg (fun e => ?_), (h.inner g' p hp).2⟩
      exact c (h.apart g' g p _ hp hgk (Option.some.inj e))
  · rw [getK_put] at h1 h2
    by_cases c1 : g1 = g
    · by_cases c2 : g2 = g
      · rw [c1, c2]
      · rw [if_pos c1] at h1; rw [if_neg c2] at h2; cases h1
        exact c1.trans (h.apart g g2 _ p2 hgk h2 he)
    · by_cases c2 : g2 = g
      · rw [if_neg c1] at h1; rw [if_pos c2] at h2; cases h2
        exact (h.apart g1 g p1 _ h1 hgk he).trans c2.symm
      · rw [if_neg c1] at h1; rw [if_neg c2] at h2
        exact h.apart g1 g2 p1 p2 h1 h2 he
end
end Go.Proofs.Ytafididfgljfcaa
