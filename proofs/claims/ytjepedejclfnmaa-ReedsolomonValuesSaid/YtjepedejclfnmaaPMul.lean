/-
  The walk of gfpoly.Mul.
-/
import Derived.Test.YtjepedejclfnmaaTrim
import Derived.Test.YtjepedejclfnmaaGfMul
import Derived.Test.YtjepedejclfnmaaGfB
import Derived.StillTailTactics
namespace Go.Proofs.Ytjepedejclfnmaa
open Go.RowKit
set_option linter.unusedVariables false

theorem still_same {P : Program} {f : FuncId} {args : Array Value} {w : World} {v : Value}
    (h : Calls P f args w fun e w' => e = .returned v ∧ w = w') : Calls P f args w fun e w'' => e = .returned v ∧ w'' = w :=
  h.mono fun _ _ ⟨he, hm⟩ => ⟨he, hm.symm⟩

theorem add_r (a b r : UInt8) (h : Hid (a ^^^ b = r)) (w : World) : Calls Try.prog 28 #[.int .u8 a.toNat, .int .u8 b.toNat] w fun e w' => e = .returned (.int .u8 r.toNat) ∧ w = w' := by
  rw [← h.out]; exact add_any a b w
theorem Cells.drew {w : World} {g : Nat} {l : List UInt8} (h : Cells w g l) : Cells w.drew g l := h

set_option maxRecDepth 100000 in
set_option maxHeartbeats 1000000 in
/-- The inner round's region, for any row out of len cells at block G. -/
theorem pmul_some (g1 g2 c1 c2 : Nat) (p q : List UInt8) (w : World) (hp : Cells w g1 p) (hq : Cells w g2 q) (hp1 : p.length ≤ 1000) (hq1 : q.length ≤ 1000) :
    Calls Try.prog 25 #[.slice (some ⟨g1, 0, none⟩) p.length c1, .slice (some ⟨g2, 0, none⟩) q.length c2] w fun e w' => ∃ v', e = .returned v' ∧ Sl w' w.heap.size v' (pmul p q) ∧ Below w.heap.size w w' := by
  have HP := Lib.hid hp
  have HQ := Lib.hid hq
  have hL := mulOut_len p q
  have hg1 := hp.1
  have hg2 := hq.1
  obtain ⟨m, hm⟩ : ∃ m, p.length = m := ⟨_, rfl⟩
  obtain ⟨n, hn⟩ : ∃ n, q.length = n := ⟨_, rfl⟩
  rw [hm, hn] at hL
  rw [hm] at hp1 ⊢
  rw [hn] at hq1 ⊢
  have HM := Lib.hid hm
  have HN := Lib.hid hn
  have HLn := Lib.hid hL
  clear hm hn hp hq hL
  go_enter Try.func25, Try.ntmps25
  go_wp2_with (at_make; refine wpList_make_bytes rfl _ _ 22 5 rfl Try.underlying22 Try.infoU8 (m + n) (by go_num) (by go_num) (by omega) ?_; intro w1 hC1 hB1 hz1)
  go_loopw [16] (fun i wr => ∃ k : Nat, k ≤ m ∧ i = .int .i64 k ∧ Cells wr w.heap.size (mulOut p q k) ∧ Below w.heap.size w wr) (fun i _ => m - (intOf i).toNat)
  case atStart => exact ⟨0, Nat.zero_le _, rfl, by simp only [mulOut]; rw [HM.out, HN.out]; exact hC1, hB1⟩
  case round =>
    obtain ⟨k, hk, rfl, hC, hB⟩ := hrel
    obtain ⟨wo, hwo⟩ : ∃ wo : World, wo = wr := ⟨_, rfl⟩
    by_cases hlt : k < m
    · have HC0 := Lib.hid hC
      clear hC
      go_wp2
      go_loopw [21] (fun j wr => ∃ r : Nat, r ≤ n ∧ j = .int .i64 r ∧ Cells wr w.heap.size (mulIn p q k (mulOut p q k) r) ∧ Below w.heap.size w wr) (fun j _ => n - (intOf j).toNat)
      case atStart => exact ⟨0, Nat.zero_le _, rfl, HC0.out, hB⟩
      case round =>
        clear HC0 hB hwo
        obtain ⟨r, hr, rfl, hC, hB⟩ := hrel
        by_cases hlr : r < n
        · have hlen : (mulIn p q k (mulOut p q k) r).length = m + n := by rw [mulIn_len, HLn.out]
          have hcp := (HP.out.kept hB).at k (by rw [HM.out]; exact hlt)
          have hcq := (HQ.out.kept hB).at r (by rw [HN.out]; exact hlr)
          have hco := hC.at (k + r) (by rw [hlen]; omega)
          have hfo := hC.free (k + r) (by rw [hlen]; omega)
          have hst : Hid (mulIn p q k (mulOut p q k) (r + 1) = (mulIn p q k (mulOut p q k) r).set (k + r) ((mulIn p q k (mulOut p q k) r)[k + r]?.getD 0 ^^^ F.mulB (p[k]?.getD 0) (q[r]?.getD 0))) := rfl
          obtain ⟨x, hx⟩ : ∃ x, p[k]?.getD 0 = x := ⟨_, rfl⟩
          obtain ⟨y, hy⟩ : ∃ y, q[r]?.getD 0 = y := ⟨_, rfl⟩
          obtain ⟨z, hz⟩ : ∃ z, (mulIn p q k (mulOut p q k) r)[k + r]?.getD 0 = z := ⟨_, rfl⟩
          rw [hx] at hcp hst
          rw [hy] at hcq hst
          rw [hz] at hco hst
          obtain ⟨s, hs⟩ : ∃ s, z ^^^ F.mulB x y = s := ⟨_, rfl⟩
          have HS := Lib.hid hs
          clear hs
          have HC := Lib.hid hC
          have HB := Lib.hid hB
          have HLEN := Lib.hid hlen
          clear hx hy hz hC hlen
          have e1 : IntKind.i64.wrap ((k : Int) + r) = (k : Int) + r := IntWalk.i64_in _ (by omega)
          have e2 : ((k : Int) + r).toNat = k + r := by omega
          have e3 : 0 ≤ (k : Int) + r := by omega
          have e4 : (k : Int) + r < (m : Int) + n := by omega
          go_wp2_with fail
          go_still_tail 21, (by kernel_rfl)
          still_call (still_same (mul_any x y _))
          repeat still_step
          still_call (still_same (add_r z (F.mulB x y) s HS _))
          repeat still_step
          refine wpStill_nil ?_
          change wpList _ _ _ _ _ wr.drew
          go_wp2
          go_roundw
          case rel => exact ⟨r + 1, by omega, by go_num, by rw [hst.out, HS.out]; exact (HC.out.set _ (by rw [HLEN.out]; omega) s).drew, (HB.out.setCell (Nat.le_refl _) _).drew⟩
          case measure => simp [intOf] <;> omega
        · obtain rfl : r = n := by omega
          go_wp2
          go_roundw
          case rel => exact ⟨k + 1, by omega, by go_num, by simp only [mulOut]; rw [HN.out]; exact hC, hB⟩
          case measure => simp [intOf] <;> omega
    · obtain rfl : k = m := by omega
      go_wp2_with fail
      refine (trim_any _ (mulOut p q k) _ (Sl.of_cells hC (Nat.zero_le _) (by rw [HLn.out]; exact Nat.le_refl _) (by unfold maxLen; omega) _ (HLn.out k)) (by rw [HLn.out]; omega)).mono ?_
      rintro e w' ⟨v', rfl, hs, hb⟩
      go_wp2
      go_ret
      exact ⟨_, rfl, by unfold pmul; rw [HM.out]; exact hs.mono hB.size, bt hB hb⟩
end Go.Proofs.Ytjepedejclfnmaa
