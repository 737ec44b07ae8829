/-
  A region that draws its order and holds calls of functions that only allocate: one walk, in the class of the worlds that keep what was there ('Below').
-/
import Derived.Test.YtafididfgljfcaaRet
import Derived.Deep.Quiet
import Derived.Deep.QuietTactic
import Derived.Tactics
import Derived.Tactics2
import Derived.KernelRfl
namespace Go.Proofs.Ytafididfgljfcaa
open Go.RowKit
set_option linter.unusedVariables false

theorem wp_region_class {P : Program} {C : World → Prop} {id : Nat} {Q : Exit → Act → World → Prop} {a : Act} {w : World} {l : List Oper} (hm : P.follows .mixedOrders = true) (hB : Region.lexB .any l.toArray = true) (hC : C w.drew)
    (h : wpQuiet P l.toArray C (fun a' => ∀ w', C w' → Q .normal a' w') l a) : (Code.region id l.toArray true).wp P Q a w :=
  wp_region_quiet hm hB hC (by simpa using h)
theorem bl_want {c : Bool} {A B : Prop} (h : c = true) (hA : A) : if c then A else B := by rw [if_pos h]; exact hA
theorem bl_skip {c : Bool} {A B : Prop} (h : c = false) (hB : B) : if c then A else B := by rw [if_neg (by rw [h]; exact Bool.false_ne_true)]; exact hB

end Go.Proofs.Ytafididfgljfcaa
