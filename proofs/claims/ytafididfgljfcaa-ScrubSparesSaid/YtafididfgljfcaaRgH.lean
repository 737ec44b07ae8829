/-
  A region that draws its order: a head of operations that yield one value each in every world that meets S and do nothing else, whatever the order; behind it a tail whose order is forced among itself, of which some may come up among the head: behind each of the tail S holds. One walk.
-/
import Derived.OrdersHeld
import Derived.StillTail
import Derived.Test.YtafididfgljfcaaBlT
namespace Go.Proofs.Ytafididfgljfcaa
open Go.RowKit
set_option linter.unusedVariables false
section
variable {P : Program} {ops : Array Oper} {md : Region.Mode} {S : World → Prop} {Q : Exit → Act → World → Prop}
def wpTake (P : Program) (ops : Array Oper) (S : World → Prop) (L : Act → Prop) : List Oper → Act → Prop
  | [], a => L a
  | o :: l, a => ∃ v, YieldsIf P ops S o v a ∧ wpTake P ops S L l (a.put o.dst v)
def wpListH (P : Program) (ops : Array Oper) (Q : Exit → Act → World → Prop) (S : World → Prop) : List Oper → Act → World → Prop
  | [], a, w => Q .normal a w
  | o :: l, a, w => if Region.wanted o (yielded ops a.tmps) = true then o.wp P a w (fun a' w' => S w' ∧ wpListH P ops Q S l a' w') Q else S w ∧ wpListH P ops Q S l (a.put o.dst undef) w
structure WT (P : Program) (ops : Array Oper) (S : World → Prop) (L : Act → Prop) (l : List Oper) (a : Act) : Prop where
  out : wpTake P ops S L l a
theorem WT.step {L : Act → Prop} {o : Oper} {l : List Oper} {a : Act} (v : Value) (hw : Region.wanted o (yielded ops a.tmps) = true) (hy : ∀ w, S w → (execOp a.eval o).run P w = .ok (.value v) w) (h : WT P ops S L l (a.put o.dst v)) : WT P ops S L (o :: l) a :=
  ⟨v, .inl ⟨hw, hy⟩, h.out⟩
theorem WT.nil {L : Act → Prop} {a : Act} (h : L a) : WT P ops S L [] a := ⟨h⟩
structure WH (P : Program) (ops : Array Oper) (Q : Exit → Act → World → Prop) (S : World → Prop) (l : List Oper) (a : Act) (w : World) : Prop where
  out : wpListH P ops Q S l a w
theorem WH.nil {a : Act} {w : World} (h : Q .normal a w) : WH P ops Q S [] a w := ⟨h⟩
theorem WH.step {o : Oper} {l : List Oper} {a : Act} {w : World} (v : Value) (w' : World) (hw : Region.wanted o (yielded ops a.tmps) = true) (hrun : (execOp a.eval o).run P w = .ok (.value v) w') (hS : S w') (h : WH P ops Q S l (a.put o.dst v) w') : WH P ops Q S (o :: l) a w := by
  refine ⟨?_⟩
  unfold wpListH
  rw [if_pos hw]
  unfold Oper.wp
  rw [hrun]
  exact ⟨hS, h.out⟩
theorem wpAnyH_seq : ∀ (l : List Oper) (k : Nat) (listed : Array Bool) (a : Act) (w : World), (∀ j, l[j]? = ops[k + j]?) →
    Region.seqB md ops l.length k listed = true → wpListH P ops Q S l a w → wpAnyH P md ops Q S l.length listed a w
  | [], _, _, _, _, _, hB, h => ⟨by simpa [Region.seqB] using hB, h⟩
  | o :: l, k, listed, a, w, hl, hB, h => by
    have h0 : ops[k]? = some o := by simpa using (hl 0).symm
    simp only [List.length_cons, Region.seqB, Bool.and_eq_true, decide_eq_true_eq] at hB
    refine ⟨fun h1 => (by rw [hB.1] at h1; cases h1), fun i hi => ?_⟩
    rw [hB.1] at hi
    have hik : i = k := by simpa using hi
    subst hik
    have hw : wpOp P ops Q i (fun a' w' => S w' ∧ wpListH P ops Q S l a' w') a w := by
      unfold wpOp
      simp only [h0]
      unfold wpListH at h
      by_cases c : Region.wanted o (yielded ops a.tmps) = true
      · rw [if_pos c] at h ⊢; exact .inl h
      · rw [if_neg c] at h ⊢; exact h
    exact wpOp_mono (fun a' w' h' => ⟨h'.1, wpAnyH_seq l (i + 1) _ a' w' (fun j => by have := hl (j + 1); simpa [Nat.add_assoc, Nat.add_comm 1 j] using this) hB.2 h'.2⟩) hw
theorem wpAnyH_lex {n g : Nat} {Lq : Act → Prop} {w : World} (hQ : ∀ c a a' w, Q (.panic c) a w → Q (.panic c) a' w) (hS : S w) (hsel : Region.noSelect ops = true)
    (hL : ∀ ls a, Region.seqB md ops g n ls = true → Lq a → wpAnyH P md ops Q S g ls a w) :
    ∀ (l : List Oper) (k : Nat) (ls : Array Bool) (a : Act), (∀ j, j < l.length → l[j]? = ops[k + j]?) → k + l.length = n → Region.lexHead md ops g l.length k ls = true → wpTake P ops S Lq l a →
      wpAnyH P md ops Q S (l.length + g) ls a w
  | [], k, ls, a, _, hk, hB, h => by
    have : k = n := by simpa using hk
    subst this
    rw [List.length_nil, Nat.zero_add]
    exact hL ls a (by simpa [Region.lexHead] using hB) h
  | o :: l, k, ls, a, hl, hk, hB, h => by
    have h0 : ops[k]? = some o := by simpa using (hl 0 (by simp)).symm
    simp only [List.length_cons, Region.lexHead, Bool.and_eq_true] at hB
    obtain ⟨⟨hr, hf⟩, hB'⟩ := hB
    obtain ⟨v, hy, h'⟩ := h
    have e : (o :: l).length + g = (l.length + g) + 1 := by rw [List.length_cons]; omega
    rw [e]
    exact wpAnyH_take h0 hsel hf hr (fun c a w h => hQ c _ _ w h) hy hS
      (wpAnyH_lex hQ hS hsel hL l (k + 1) _ _ (fun j hj => by have := hl (j + 1) (by simp; omega); simpa [Nat.add_assoc, Nat.add_comm 1 j] using this) (by simp only [List.length_cons] at hk; omega) hB' h')
/-- Q, but 'False' at a panic: these regions do not panic. -/
def NP (Q : Exit → Act → World → Prop) : Exit → Act → World → Prop
  | .panic _, _, _ => False
  | e, a, w => Q e a w
theorem NP.imp {Q : Exit → Act → World → Prop} : ∀ (e : Exit) (a : Act) (w : World), NP Q e a w → Q e a w := fun e a w h => by
  cases e <;> first | exact h | exact (h : False).elim
theorem WH.last {a : Act} {w : World} (h : Q .normal a w) : WH P ops (NP Q) S [] a w := ⟨h⟩
theorem wp_region_lexh {id : Nat} {a : Act} {w : World} {l : List Oper} (n : Nat) (hm : P.follows .mixedOrders = true) (hn : n ≤ l.length) (hsel : Region.noSelect l.toArray = true) (hB : Region.lexHead .any l.toArray (l.length - n) n 0 (Array.replicate l.length false) = true)
    (hS : S w.drew)
    (h : WT P l.toArray S (fun a' => WH P l.toArray (NP Q) S (l.drop n) a' w.drew) (l.take n) a) : (Code.region id l.toArray true).wp P Q a w := by
  refine Code.wp_mono NP.imp ?_
  refine wp_region_held (S := S) hm ?_
  have htl : (l.take n).length = n := by rw [List.length_take]; omega
  have hdl : (l.drop n).length = l.length - n := by rw [List.length_drop]
  have := wpAnyH_lex (md := .any) (g := l.length - n) (Q := NP Q) (fun _ _ _ _ h => h.elim) hS hsel (fun ls a' hs hL => by
    have := wpAnyH_seq (md := .any) (S := S) (l.drop n) n ls a' w.drew (fun j => by simp [List.getElem?_drop]) (by rw [hdl]; exact hs) hL.out
    rwa [hdl] at this) (l.take n) 0 (Array.replicate l.length false) a (fun j hj => by
    rw [htl] at hj
    rw [List.getElem?_take, if_pos hj]; simp) (by omega) (by rw [htl]; exact hB) h.out
  rw [htl, show n + (l.length - n) = l.toArray.size by rw [List.size_toArray]; omega] at this
  have e : l.toArray.size = l.length := List.size_toArray
  rw [e] at this ⊢
  exact this
end
end Go.Proofs.Ytafididfgljfcaa
