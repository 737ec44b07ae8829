/-
  The walk of gfpoly.Eval.
-/
import Derived.Test.YtamkahjdedomlaaRsSyn
namespace Go.Proofs.Ytamkahjdedomlaa
open Go.RowKit
set_option linter.unusedVariables false

/-- The value of the polynomial p (lowest degree first) at x. -/
def evB (p : List UInt8) (x : UInt8) : UInt8 := horn p.reverse x
theorem ev_step (p : List UInt8) (x : UInt8) (k : Nat) (hk : k < p.length) : hornTo p.reverse x (k + 1) = F.mulB (hornTo p.reverse x k) x ^^^ (p[p.length - 1 - k]?.getD 0) := by
  simp only [hornTo]
  rw [List.getElem?_reverse hk]

theorem eval_any (v : Value) (p : List UInt8) (x : UInt8) (w : World) (hv : Sl w 0 v p) (hz : p.length ≤ 100000) : Calls Try.prog 30 #[v, .int .u8 x.toNat] w fun e w' => e = .returned (.int .u8 (evB p x).toNat) ∧ ∃ n, w' = w.drewN n := by
  rcases hv with ⟨a, cap, rfl, rfl⟩ | ⟨g, cap, rfl, hne, h1, h2, _, hc⟩
  · cases a
    all_goals
      go_enter Try.func30, Try.ntmps30
      go_wp2
      refine wp_loop_rounds 1 ?_
      rw [rounds_succ]
      go_wp2
      go_ret
      exact ⟨rfl, 0, rfl⟩
  · obtain ⟨N, hN⟩ : ∃ N, p.length = N := ⟨_, rfl⟩
    have hst := ev_step p x
    have hfin : evB p x = hornTo p.reverse x p.length := by unfold evB horn; rw [List.length_reverse]
    rw [hN] at hz h1 hst hfin ⊢
    rw [hfin]
    have HN := Lib.hid hN
    have HC := Lib.hid hc
    have HST := Lib.hid hst
    clear hN hc hne hst hfin
    go_enter Try.func30, Try.ntmps30
    go_wp2
    go_loopw [5, 9] (fun y i wr => ∃ k : Nat, k ≤ N ∧ i = .int .i64 k ∧ y = .int .u8 (hornTo p.reverse x k).toNat ∧ ∃ q, wr = w.drewN q) (fun _ i _ => N - (intOf i).toNat)
    case atStart => exact ⟨0, Nat.zero_le _, rfl, rfl, 0, rfl⟩
    case round =>
      obtain ⟨k, hk, rfl, rfl, q, hq⟩ := hrel
      by_cases hlt : k < N
      · have hco := (HC.out.drewN q).at (N - 1 - k) (by rw [HN.out]; omega)
        rw [← hq] at hco
        have HQ := Lib.hid hq
        clear hq
        have hst := HST.out k hlt
        obtain ⟨y, hy⟩ : ∃ y, p[N - 1 - k]?.getD 0 = y := ⟨_, rfl⟩
        obtain ⟨z, hzz⟩ : ∃ z, hornTo p.reverse x k = z := ⟨_, rfl⟩
        rw [hy] at hco hst
        rw [hzz] at hst ⊢
        obtain ⟨r, hr⟩ : ∃ r, F.mulB z x ^^^ y = r := ⟨_, rfl⟩
        rw [hr] at hst
        have HR := Lib.hid hr
        have HS := Lib.hid hst
        clear hy hzz hr hst
        have e1 : IntKind.i64.wrap ((N : Int) - 1) = (N : Int) - 1 := IntWalk.i64_in _ (by omega)
        have e2 : IntKind.i64.wrap ((N : Int) - 1 - k) = (N : Int) - 1 - k := IntWalk.i64_in _ (by omega)
        have e3 : ((N : Int) - 1 - k).toNat = N - 1 - k := by omega
        have e4 : 0 ≤ (N : Int) - 1 - k := by omega
        have e5 : (N : Int) - 1 - k < (N : Int) := by omega
        go_wp2_with fail
        go_quiet ((first
          | (go_at_call 32; exact quiet_same (mul_any z x _))
          | (go_at_call 33; exact quiet_same (add_r (F.mulB z x) y r HR _))))
        go_wp2
        go_roundw
        case rel => exact ⟨k + 1, by omega, by go_num, by rw [HS.out], q + nq, by rw [HQ.out, World.drewN_drewN]⟩
        case measure => simp [intOf] <;> omega
      · obtain rfl : k = N := by omega
        go_wp2
        go_ret
        exact ⟨rfl, q, rfl⟩
end Go.Proofs.Ytamkahjdedomlaa
