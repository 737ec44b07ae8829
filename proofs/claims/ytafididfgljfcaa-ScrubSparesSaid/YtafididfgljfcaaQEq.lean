/-
  '==' of two frames as an operation of a quiet region.
-/
import Derived.Test.YtafididfgljfcaaFrEq
namespace Go.Proofs.Ytafididfgljfcaa
open Go.RowKit
set_option linter.unusedVariables false
theorem guardF (x y : Operand) (f g : Fr) (w : World) : (eqGuard .eql 39 x y f.v g.v).run Try.prog w = .ok () w := by
  have h : Try.prog.eqGuardType Try.prog.depth 39 = false := by kernel_rfl
  simp [eqGuard, Fr.v, h, Result.andThen]
theorem quiet_eqF {o : Oper} {a : Act} {C : World → Prop} {w : World} (x y : Operand) (ho : o.op = .binOp .eql 39 x y 39) (f g : Fr) (hx : a.eval x = f.v) (hy : a.eval y = g.v) : o.quietAt Try.prog a C w (.bool (decide (f = g))) := by
  unfold Oper.quietAt execOp
  simp only [ho, hx, hy, Sem.run_bind, guardF, run_eqF f g w, Result.andThen_ok]
  exact ⟨rfl, rfl⟩
end Go.Proofs.Ytafididfgljfcaa
