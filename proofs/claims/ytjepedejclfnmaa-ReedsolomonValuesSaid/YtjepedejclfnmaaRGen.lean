/-
  The walk of the reference's Generator.
-/
import Derived.Test.YtjepedejclfnmaaRsPre
namespace Go.Proofs.Ytjepedejclfnmaa
open Go.RowKit
set_option linter.unusedVariables false

def rgIn (g : List UInt8) (e : UInt8) : Nat → List UInt8
  | 0 => List.replicate (g.length + 1) 0
  | k + 1 => ((rgIn g e k).set (k + 1) ((rgIn g e k)[k + 1]?.getD 0 ^^^ (g[k]?.getD 0))).set k
      ((((rgIn g e k).set (k + 1) ((rgIn g e k)[k + 1]?.getD 0 ^^^ (g[k]?.getD 0))))[k]?.getD 0 ^^^ F.mulB (g[k]?.getD 0) e)
theorem rgIn_len (g : List UInt8) (e : UInt8) (k : Nat) : (rgIn g e k).length = g.length + 1 := by
  induction k with
  | zero => simp [rgIn]
  | succ k ih => simp only [rgIn, List.length_set]; exact ih
theorem co_rgIn (g : List UInt8) (e : UInt8) (k : Nat) (hk : k ≤ g.length) (n : Nat) : co (rgIn g e k) n = (if n < k then co g n * F.mk e else 0) + (if 1 ≤ n ∧ n ≤ k then co g (n - 1) else 0) := by
  induction k generalizing n with
  | zero =>
    rw [if_neg (by omega), if_neg (by omega)]
    exact co_replicate _ _
  | succ k ih =>
    simp only [rgIn]
    have h1 : ∀ m, co ((rgIn g e k).set (k + 1) ((rgIn g e k)[k + 1]?.getD 0 ^^^ (g[k]?.getD 0))) m = if m = k + 1 then co (rgIn g e k) (k + 1) + co g k else co (rgIn g e k) m := by
      intro m
      rw [co_set _ _ _ _ (by rw [rgIn_len]; omega)]; rfl
    obtain ⟨L, hL⟩ : ∃ L, (rgIn g e k).set (k + 1) ((rgIn g e k)[k + 1]?.getD 0 ^^^ (g[k]?.getD 0)) = L := ⟨_, rfl⟩
    have hLl : L.length = g.length + 1 := by rw [← hL, List.length_set, rgIn_len]
    rw [hL] at h1 ⊢
    rw [co_set _ _ _ _ (by omega)]
    by_cases c : n = k
    · subst c
      rw [if_pos rfl]
      show co L n + co g n * F.mk e = _
      rw [h1 n, if_neg (by omega), ih (by omega) n, if_neg (by omega), if_pos (by omega : n < n + 1), F.zero_add]
      by_cases d : 1 ≤ n
      · rw [if_pos ⟨d, Nat.le_refl _⟩, if_pos ⟨d, by omega⟩, F.add_comm]
      · rw [if_neg (by omega), if_neg (by omega), F.zero_add, F.add_zero]
    · rw [if_neg c, h1 n]
      by_cases d : n = k + 1
      · subst d
        rw [if_pos rfl, ih (by omega), if_neg (by omega), if_neg (by omega), if_neg (by omega), if_pos ⟨by omega, Nat.le_refl _⟩]
        rw [F.zero_add, F.zero_add, F.zero_add]; rfl
      · rw [if_neg d, ih (by omega)]
        have e1 : (n < k) ↔ (n < k + 1) := by omega
        have e2 : (1 ≤ n ∧ n ≤ k) ↔ (1 ≤ n ∧ n ≤ k + 1) := by omega
        simp only [e1, e2]
theorem rgIn_gen (i : Nat) : rgIn (genB i) (F.expB i) (i + 1) = genB (i + 1) := by
  refine co_ext (by rw [rgIn_len, gen_len, gen_len]) fun n hn => ?_
  rw [rgIn_len, gen_len] at hn
  rw [co_rgIn _ _ _ (by rw [gen_len]; exact Nat.le_refl _), co_gen_succ]
  congr 1
  · by_cases c : n < i + 1
    · rw [if_pos c]; rfl
    · rw [if_neg c, co_out (genB i) n (by rw [gen_len]; omega), F.zero_mul]
  · by_cases c : n = 0
    · rw [if_pos c, if_neg (by omega)]
    · rw [if_neg c, if_pos (by omega)]

theorem rgen_bad (p : Int) (h : p < 1 ∨ 64 < p) (w : World) : Calls Try.prog 12 #[.int .i64 p] w fun e w' => e = .returned (.tuple #[.slice none 0 0, .int .i64 2]) ∧ w = w' := by
  by_cases h1 : p < 1
  · go_enter Try.func12, Try.ntmps12
    go_wp2
    go_ret2
    exact ⟨rfl, rfl⟩
  · have h2 : 64 < p := by omega
    go_enter Try.func12, Try.ntmps12
    go_wp2
    go_ret2
    exact ⟨rfl, rfl⟩

set_option maxHeartbeats 2000000 in
theorem rgen_ok (p : Nat) (h1 : 1 ≤ p) (h2 : p ≤ 64) (w : World) : Calls Try.prog 12 #[.int .i64 p] w
    fun e w' => ∃ g, e = .returned (.tuple #[.slice (some ⟨g, 0, none⟩) (p + 1) (p + 1), .int .i64 0]) ∧ w.heap.size ≤ g ∧ Cells w' g (genB p) ∧ Below w.heap.size w w' := by
  go_enter Try.func12, Try.ntmps12
  go_wp2
  go_loopw [4, 5] (fun v i wr => ∃ (k g : Nat), k ≤ p ∧ i = .int .i64 k ∧ v = .slice (some ⟨g, 0, none⟩) (k + 1) (k + 1) ∧ w.heap.size ≤ g ∧ Cells wr g (genB k) ∧ Below w.heap.size w wr) (fun _ i _ => p - (intOf i).toNat)
  case atStart =>
    exact ⟨0, w.heap.size, by omega, rfl, rfl, Nat.le_refl _, cells_one w 1 _, (Below.refl _ _).alloc (Nat.le_refl _) _⟩
  case round =>
    obtain ⟨k, g, hk, rfl, rfl, hg, hC, hB⟩ := hrel
    obtain ⟨wo, hwo⟩ : ∃ wo : World, wo = wr := ⟨_, rfl⟩
    by_cases hlt : k < p
    · have HC := Lib.hid hC
      have HB := Lib.hid hB
      have HGL := Lib.hid (gen_len k)
      have hgl := hC.1
      clear hC hB
      have q1 : IntKind.i64.wrap ((k : Int) + 1 + 1) = (k : Int) + 1 + 1 := IntWalk.i64_in _ (by omega)
      go_wp2_with (at_make; refine wpList_make_bytes rfl _ _ 22 5 rfl Try.underlying22 Try.infoU8 (k + 1 + 1) (by go_num) (by go_num) (by omega) ?_; intro w1 hC1 hB1 hz1)
      have HC1 := Lib.hid (HC.out.kept hB1)
      have HB1 := Lib.hid (bt HB.out hB1)
      have hwz : w.heap.size ≤ wr.heap.size := HB.out.size
      have hr0 : List.replicate (k + 1 + 1) 0 = rgIn (genB k) (F.expB k) 0 := by simp only [rgIn]; rw [HGL.out]
      rw [hr0] at hC1
      obtain ⟨B2, hBB⟩ : ∃ B2, wr.heap.size = B2 := ⟨_, rfl⟩
      rw [hBB] at hC1 hgl hwz ⊢
      have HR1 := Lib.hid hC1
      clear hB1 hz1 hr0 hC1 HB HC hBB hwo
      go_wp2_with fail
      go_loopw [7] (fun i wr => ∃ r : Nat, r ≤ k + 1 ∧ i = .int .i64 r ∧ Cells wr B2 (rgIn (genB k) (F.expB k) r) ∧ Cells wr g (genB k) ∧ Below w.heap.size w wr) (fun i _ => k + 1 - (intOf i).toNat)
      case atStart => exact ⟨0, Nat.zero_le _, rfl, HR1.out, HC1.out, HB1.out⟩
      case round =>
        clear HR1 HC1 HB1
        obtain ⟨r, hr, rfl, hP, hC, hB⟩ := hrel
        by_cases hlr : r < k + 1
        · have hlen : (rgIn (genB k) (F.expB k) r).length = k + 2 := by rw [rgIn_len, HGL.out]
          have hst : Hid (rgIn (genB k) (F.expB k) (r + 1) = ((rgIn (genB k) (F.expB k) r).set (r + 1) ((rgIn (genB k) (F.expB k) r)[r + 1]?.getD 0 ^^^ ((genB k)[r]?.getD 0))).set r
            ((((rgIn (genB k) (F.expB k) r).set (r + 1) ((rgIn (genB k) (F.expB k) r)[r + 1]?.getD 0 ^^^ ((genB k)[r]?.getD 0))))[r]?.getD 0 ^^^ F.mulB ((genB k)[r]?.getD 0) (F.expB k))) := rfl
          have hcg := hC.at r (by rw [HGL.out]; exact hlr)
          have hco := hP.at (r + 1) (by omega)
          have hfo := hP.free (r + 1) (by omega)
          obtain ⟨L, hL⟩ : ∃ L, rgIn (genB k) (F.expB k) r = L := ⟨_, rfl⟩
          rw [hL] at hst hco hlen hP
          obtain ⟨x, hx⟩ : ∃ x, (genB k)[r]?.getD 0 = x := ⟨_, rfl⟩
          rw [hx] at hst hcg
          obtain ⟨y, hy⟩ : ∃ y, L[r + 1]?.getD 0 = y := ⟨_, rfl⟩
          rw [hy] at hst hco
          obtain ⟨z, hz⟩ : ∃ z, y ^^^ x = z := ⟨_, rfl⟩
          rw [hz] at hst
          have hxx := xor_r _ _ _ hz
          obtain ⟨L2, hL2⟩ : ∃ L2, L.set (r + 1) z = L2 := ⟨_, rfl⟩
          have hP2 := hP.set (r + 1) (by omega) z
          have hlen2 : L2.length = k + 2 := by rw [← hL2, List.length_set]; exact hlen
          rw [hL2] at hst hP2
          obtain ⟨u, hu⟩ : ∃ u, L2[r]?.getD 0 = u := ⟨_, rfl⟩
          rw [hu] at hst
          obtain ⟨v, hv⟩ : ∃ v, u ^^^ F.mulB x (F.expB k) = v := ⟨_, rfl⟩
          rw [hv] at hst
          have hxv := xor_r _ _ _ hv
          have HP2 := Lib.hid hP2
          have HC := Lib.hid hC
          have HB := Lib.hid hB
          have HL2 := Lib.hid hlen2
          have HU := Lib.hid hu
          have HX := Lib.hid hx
          clear hL hx hy hz hL2 hP hP2 hlen hlen2 hu hv hC hB
          have i1 : IntKind.i64.wrap ((r : Int) + 1) = (r : Int) + 1 := IntWalk.i64_in _ (by omega)
          have i2 : ((r : Int) + 1).toNat = r + 1 := by omega
          have i3 : (r : Int) + 1 < (k : Int) + 1 + 1 := by omega
          have i4 : 0 ≤ (r : Int) + 1 := by omega
          have i5 : (r : Int) < (k : Int) + 1 := by omega
          have i6 : (r : Int) < (k : Int) + 1 + 1 := by omega
          go_wp2_with fail
          go_still_tail 14, (by kernel_rfl)
          change wpList _ _ _ _ _ wr.drew
          go_wp2_with fail
          clear hcg hco hfo
          have hP5 : Cells (wr.setCell ⟨B2, r + 1, none⟩ (.int .u8 z.toNat)).drew B2 L2 := HP2.out.drew
          have hC5 : Cells (wr.setCell ⟨B2, r + 1, none⟩ (.int .u8 z.toNat)).drew g (genB k) := (HC.out.other _ (by show B2 ≠ g; omega) _).drew
          have hB5 : Below w.heap.size w (wr.setCell ⟨B2, r + 1, none⟩ (.int .u8 z.toNat)).drew := (HB.out.setCell hwz _).drew
          obtain ⟨w5, hw5⟩ : ∃ w5, (wr.setCell ⟨B2, r + 1, none⟩ (.int .u8 z.toNat)).drew = w5 := ⟨_, rfl⟩
          rw [hw5] at hP5 hC5 hB5 ⊢
          have hcg := hC5.at r (by rw [HGL.out]; exact hlr)
          have hco := hP5.at r (by rw [HL2.out]; omega)
          have hfo := hP5.free r (by rw [HL2.out]; omega)
          rw [HX.out] at hcg
          rw [HU.out] at hco
          have HP5 := Lib.hid hP5
          have HC5 := Lib.hid hC5
          have HB5 := Lib.hid hB5
          clear hP5 hC5 hB5 hw5
          go_still_tail 15, (by kernel_rfl)
          still_call (still_same (rpow_any k (by omega) _))
          repeat still_step
          still_call (still_same (times_any x (F.expB k) _))
          repeat still_step
          refine wpStill_nil ?_
          change wpList _ _ _ _ _ w5.drew
          go_wp2
          go_roundw
          case rel => exact ⟨r + 1, by omega, by go_num, by rw [hst.out]; exact (HP5.out.set r (by rw [HL2.out]; omega) v).drew, (HC5.out.other _ (by show B2 ≠ g; omega) _).drew, (HB5.out.setCell hwz _).drew⟩
          case measure => simp [intOf] <;> omega
        · obtain rfl : r = k + 1 := by omega
          rw [rgIn_gen] at hP
          go_wp2
          go_roundw
          case rel => exact ⟨k + 1, B2, by omega, by go_num, rfl, hwz, hP, hB⟩
          case measure => simp [intOf] <;> omega
    · obtain rfl : k = p := by omega
      go_wp2
      go_ret2
      exact ⟨g, rfl, hg, hC, hB⟩
end Go.Proofs.Ytjepedejclfnmaa
