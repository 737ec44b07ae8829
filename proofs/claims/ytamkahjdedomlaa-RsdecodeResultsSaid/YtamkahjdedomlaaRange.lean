/-
  A range over a function whose iterator keeps a number of its own in a cell (a captured variable), and whose body is always left at its end: a law for the caller. After the kit's laws on ranges over functions, which leave such iterators out.
-/
import Derived.RangeFuncNested
import Derived.RangeFuncBound
import Derived.RangeFuncCalls
import Derived.RangeFuncLeaves
import Derived.WalkKit
import Derived.OwnWalkIn
import Derived.TacticsInMore
import Derived.LoopNIn
import Derived.LoopIn
namespace Go.Proofs.Ytamkahjdedomlaa
open Go.RowKit
set_option linter.unusedVariables false

variable {F : Fence} {n : Nat} {P : Program}

/-- What an iterator over xs with its state in block b owes, called at the yield of whatever loop: it hands the elements over one by one, whatever invariant J the caller has that abides stores into b and is carried on by the rounds. -/
def StateSeq {α : Type} (F : Fence) (n : Nat) (P : Program) (gf : Nat) (lb : Array Value) (encs : α → Array Value) (b : Nat) (xs : List α) (o : Obj) : Prop :=
  ∀ (l : Nat) (J : List α → World → Prop) (W : World), W.heap[b]? = some o →
    (∀ pre W1 v, J pre W1 → J pre (W1.setCell ⟨b, 0, none⟩ v)) →
    (∀ pre x W1, pre ++ [x] <+: xs → J pre W1 → YieldAt F (n - 1) P l (encs x) W1 fun e W' => e = .returned (.bool true) ∧ J (pre ++ [x]) W' ∧ W'.heap[b]? = W1.heap[b]?) →
    J [] W → CallsIn F n P gf (#[.func (.yield l) #[] #[]] ++ lb) W fun e W' => (∃ v, e = .returned v) ∧ J xs W'

def roundEnds {α : Type} (b : Nat) (I : List α → World → Prop) (xs : List α) (W : World) : Exit → Act → World → Prop
  | .normal, _, W' => KeepsOthers W W' ∧ W'.heap[b]? = W.heap[b]? ∧ I xs W'
  | _, _, _ => False

theorem below_putObj {B : Nat} (W : World) (l : Nat) (o : Obj) (hl : B ≤ l) : Below B W (W.putObj l o) :=
  ⟨rfl, rfl, rfl, by simp [World.putObj], fun k hk => World.putObj_heap_other (by omega)⟩

theorem wpIn_range_state {α : Type} {g : Operand} {ps : Array Tmp} {assign body : Code} {Q : Exit → Act → World → Prop} {a : Act} {w : World}
    (hro : F.round = none) (h1 : 1 ≤ n) {gf : Nat} {lb : Array Value} (hg : a.eval g = .func (.func gf) #[] lb) (hFg : F.fn gf) (eg : ∀ args w, (callFunc gf args).run P w = .ok (.enter gf args) w)
    {encs : α → Array Value} {b : Nat} {xs : List α} {o : Obj} (hseq : StateSeq F (n - 1) P gf lb encs b xs o) (hb : w.heap[b]? = some o) (hps : ∀ x, (encs x).size = ps.size)
    (I : List α → World → Prop) (hIb : ∀ pre W W', Below w.heap.size W W' → I pre W → I pre W') (hIs : ∀ pre W v, I pre W → I pre (W.setCell ⟨b, 0, none⟩ v)) (h0 : I [] w) (a₁ : α → Act)
    (hassign : ∀ (l : Nat) (x : α) (W : World) (K : Act → World → Prop), K (a₁ x) W →
      assign.wpIn (F.inRound l) (n - 1 - 1) P (Exit.then K (fun _ _ _ => False)) { tmps := (ps.zip (encs x)).foldl (fun t (p, v) => t.setIfInBounds p v) a.tmps, defers := [] } W)
    (hbody : ∀ (l : Nat) (pre : List α) (x : α) (W : World), pre ++ [x] <+: xs → I pre W → body.wpIn (F.inRound l) (n - 1 - 1) P (roundEnds b I (pre ++ [x]) W) (a₁ x) W)
    (hdone : ∀ (D : Nat) (W : World), w.heap.size ≤ D → I xs W → W.heap[D]? = some (.deferred (some [])) → Q .normal { a with defers := { target := .collected D, args := #[] } :: a.defers } W) :
    (Code.rangeFunc g ps assign body).wpIn F n P Q a w := by
  have hbl : b < w.heap.size := (Array.getElem?_eq_some_iff.1 hb).1
  refine wpIn_rangeFunc fun fn hfn => ?_
  rw [hro]
  obtain ⟨rc, hrc⟩ : ∃ rc : LoopState → Option Code → Loop, rc = fun st pe => { state := st, pending := pe, fn, tmps := a.tmps, params := ps, assign, body, defers := w.heap.size } := ⟨_, rfl⟩
  obtain ⟨V, hV⟩ : ∃ V, (w.alloc (.deferred (some []))).alloc (.loop (rc .ready none)) = V := ⟨_, rfl⟩
  have vLoop : V.heap[w.heap.size + 1]? = some (.loop (rc .ready none)) := by
    rw [← hV]
    have := World.alloc_heap_new (w.alloc (.deferred (some []))) (.loop (rc .ready none))
    rwa [World.size_alloc] at this
  have vDef : V.heap[w.heap.size]? = some (.deferred (some [])) := by
    rw [← hV]; exact (Below.heap_alloc _ _ _ (by simp)).trans (World.alloc_heap_new w _)
  have vBelow : Below w.heap.size w V := by rw [← hV]; exact ((Below.refl _ w).alloc (Nat.le_refl _) _).alloc (by simp) _
  have vSize : V.heap.size = w.heap.size + 2 := by rw [← hV]; simp
  refine ⟨w.heap.size + 1, [{ target := .collected w.heap.size, args := #[] }], V, { target := .fn (.func gf) lb, args := #[.func (.yield (w.heap.size + 1)) #[] #[]] }, V, gf,
    #[.func (.yield (w.heap.size + 1)) #[] #[]] ++ lb, V, ?_, ?_, ?_, ?_, fun _ => h1, ?_⟩
  · rw [← hV, hrc]; exact run_enterLoop_outer _ _ _ _ _
  · simp only [resolve, hg]; simp [go_sem]
  · intro f' hf'; simp [Target.leads] at hf'; subst hf'; exact hFg
  · simp [invoke, go_sem, eg]
  · refine (hseq (w.heap.size + 1) (fun pre W => I pre W ∧ W.heap[w.heap.size + 1]? = some (.loop (rc .ready none)) ∧ W.heap[w.heap.size]? = some (.deferred (some []))) V
      ((vBelow.block b hbl).trans hb) ?_ ?_ ⟨hIb _ _ _ vBelow h0, vLoop, vDef⟩).mono ?_
    · rintro pre W1 v ⟨hi, hl, hd⟩
      exact ⟨hIs pre W1 v hi, (Below.heap_setCell _ _ _ _ (by show _ ≠ b; omega)).trans hl, (Below.heap_setCell _ _ _ _ (by show _ ≠ b; omega)).trans hd⟩
    · rintro pre x W hpre ⟨hi, hl, hd⟩
      have hlt : w.heap.size + 1 < W.heap.size := (Array.getElem?_eq_some_iff.1 hl).1
      have hy := run_yield (P := P) (args := encs x) hl (by rw [hrc]; exact hps x)
      rw [hrc] at hy
      refine ⟨fn, _, assign, body, hy, roundIn_of_wpIn hfn (hassign _ x W _ ⟨_, run_beginRound hl (by rw [hrc]), ?_⟩)⟩
      obtain ⟨X, hX⟩ : ∃ X, W.putObj (w.heap.size + 1) (.loop { rc .ready none with state := .busy }) = X := ⟨_, rfl⟩
      rw [hX]
      have xLoop : X.heap[w.heap.size + 1]? = some (.loop { rc .ready none with state := .busy }) := by rw [← hX]; exact World.putObj_heap_same hlt
      have xDef : X.heap[w.heap.size]? = some (.deferred (some [])) := by rw [← hX]; exact (World.putObj_heap_other (by omega)).trans hd
      have xBelow : Below w.heap.size W X := by rw [← hX]; exact below_putObj _ _ _ (by omega)
      refine wpIn_mono (hbody _ pre x X hpre (hIb _ _ _ xBelow hi)) ?_
      rintro e a3 Y hp
      cases e with
      | normal =>
        obtain ⟨hk, hbk, hiY⟩ := hp
        have yLoop := hk.same _ _ xLoop rfl
        have yDef := hk.same _ _ xDef rfl
        have hend := run_endRound (P := P) none yLoop
        refine ⟨_, _, hend, by rfl, ⟨hIb _ _ _ (below_putObj _ _ _ (by omega)) hiY, ?_, ?_⟩, ?_⟩
        · have : (Loop.mk LoopState.ready none fn a.tmps ps assign body w.heap.size) = rc .ready none := by rw [hrc]
          rw [World.putObj_heap_same (Array.getElem?_eq_some_iff.1 yLoop).1]
          rw [hrc]; rfl
        · exact (World.putObj_heap_other (by omega)).trans yDef
        · exact ((World.putObj_heap_other (by omega)).trans hbk).trans (xBelow.block b hbl)
      | _ => exact hp.elim
    · rintro e Y ⟨⟨v, rfl⟩, hi, hl, hd⟩
      exact ⟨none, _, by have := run_endLoop (P := P) hl (by rw [hrc]; simp); rw [hrc] at this; exact this, hdone _ _ (Nat.le_refl _) (hIb _ _ _ (below_putObj _ _ _ (by omega)) hi) ((World.putObj_heap_other (by omega)).trans hd)⟩
end Go.Proofs.Ytamkahjdedomlaa
