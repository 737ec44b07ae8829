/-
  The walk of the reference's Encode.
-/
import Derived.Test.YtjepedejclfnmaaRGen
import Derived.Test.YtjepedejclfnmaaApZ
namespace Go.Proofs.Ytjepedejclfnmaa
open Go.RowKit
set_option linter.unusedVariables false

/-- One inner loop of the division in place. -/
def rwIn (row g : List UInt8) (f : UInt8) (i p : Nat) : Nat → List UInt8
  | 0 => row
  | r + 1 => (rwIn row g f i p r).set (i + r) ((rwIn row g f i p r)[i + r]?.getD 0 ^^^ F.mulB f (g[p - r]?.getD 0))
theorem rwIn_len (row g : List UInt8) (f : UInt8) (i p r : Nat) : (rwIn row g f i p r).length = row.length := by
  induction r with
  | zero => rfl
  | succ r ih => simp only [rwIn, List.length_set]; exact ih
theorem co_rwIn (row g : List UInt8) (f : UInt8) (i p r : Nat) (h : i + r ≤ row.length) (j : Nat) : co (rwIn row g f i p r) j = if i ≤ j ∧ j < i + r then co row j + F.mk f * co g (p - (j - i)) else co row j := by
  induction r generalizing j with
  | zero => rw [if_neg (by omega)]; rfl
  | succ r ih =>
    simp only [rwIn]
    rw [co_set _ _ _ _ (by rw [rwIn_len]; omega)]
    by_cases e : j = i + r
    · subst e
      rw [if_pos rfl, if_pos (by omega)]
      show co (rwIn row g f i p r) (i + r) + F.mk f * co g (p - r) = _
      rw [ih (by omega), if_neg (by omega), show i + r - i = r by omega]
    · rw [if_neg e, ih (by omega)]
      by_cases c : i ≤ j ∧ j < i + r
      · rw [if_pos c, if_pos (by omega)]
      · rw [if_neg c, if_neg (by omega)]
/-- The row of the reference behind k steps of the division reads as data and register. -/
def RowInv (l : List UInt8) (p k : Nat) (row : List UInt8) : Prop :=
  row.length = l.length + p ∧ ∀ j, k ≤ j → j < l.length + p → co row j = co l j + co (lfTo l (genB p) p k) (j - k)
theorem rowInv_start (l : List UInt8) (p : Nat) : RowInv l p 0 (l ++ List.replicate p 0) := by
  refine ⟨by simp, fun j _ hj => ?_⟩
  simp only [lfTo]
  rw [co_replicate, F.add_zero]
  by_cases c : j < l.length
  · rw [co_append_left _ _ _ c]
  · obtain ⟨m, rfl⟩ : ∃ m, j = l.length + m := ⟨j - l.length, by omega⟩
    rw [co_append_right, co_replicate, co_out _ _ (by omega)]
theorem rowInv_step (l : List UInt8) (p k : Nat) (row : List UInt8) (hp : 1 ≤ p) (hk : k < l.length) (h : RowInv l p k row) : RowInv l p (k + 1) (rwIn row (genB p) (row[k]?.getD 0) k p (p + 1)) := by
  refine ⟨by rw [rwIn_len]; exact h.1, fun j hj hjl => ?_⟩
  have hf : F.mk (row[k]?.getD 0) = co l k + co (lfTo l (genB p) p k) 0 := by
    have := h.2 k (Nat.le_refl _) (by omega)
    rwa [Nat.sub_self] at this
  rw [co_rwIn _ _ _ _ _ _ (by rw [h.1]; omega), h.2 j (by omega) hjl, hf]
  by_cases c : k ≤ j ∧ j < k + (p + 1)
  · rw [if_pos c, co_lfTo _ _ _ _ _ (by omega)]
    rw [show j - (k + 1) + 1 = j - k by omega, show p - 1 - (j - (k + 1)) = p - (j - k) by omega, F.add_assoc]
  · rw [if_neg c]
    congr 1
    rw [co_out _ _ (by rw [lfTo_len]; omega), co_out _ _ (by rw [lfTo_len]; omega)]
theorem rowInv_end (l : List UInt8) (p : Nat) (row : List UInt8) (h : RowInv l p l.length row) : row.drop l.length = lfTo l (genB p) p l.length := by
  refine co_ext (by rw [List.length_drop, h.1, lfTo_len]; omega) fun n hn => ?_
  rw [List.length_drop, h.1] at hn
  rw [co_drop, h.2 _ (by omega) (by omega), co_out l _ (by omega), F.zero_add]
  congr 1; omega

theorem renc_bad (s : ByteArray) (p : Int) (h : p < 1 ∨ 64 < p) (w : World) : Calls Try.prog 14 #[.string s, .int .i64 p] w fun e w' => e = .returned (.tuple #[.string ⟨#[]⟩, .int .i64 2]) ∧ w = w' := by
  go_enter Try.func14, Try.ntmps14
  go_wp2_with fail
  refine (rgen_bad p h _).mono ?_
  rintro e w' ⟨rfl, rfl⟩
  go_wp2
  go_ret2
  exact ⟨rfl, rfl⟩
theorem renc_long (s : ByteArray) (p : Nat) (h1 : 1 ≤ p) (h2 : p ≤ 64) (h3 : 255 < s.size + p) (hs : s.size ≤ 9223372036854775000) (w : World) : Calls Try.prog 14 #[.string s, .int .i64 p] w fun e w' => e = .returned (.tuple #[.string ⟨#[]⟩, .int .i64 6]) ∧ Below w.heap.size w w' := by
  have e1 : IntKind.i64.wrap ((s.size : Int) + p) = (s.size : Int) + p := IntWalk.i64_in _ (by omega)
  have e2 : (255 : Int) < (s.size : Int) + p := by omega
  go_enter Try.func14, Try.ntmps14
  go_wp2_with fail
  refine (rgen_ok p h1 h2 _).mono ?_
  rintro e w1 ⟨g, rfl, hg, hC, hB⟩
  have HC := Lib.hid hC
  have HB := Lib.hid hB
  clear hC hB
  go_wp2
  go_ret2
  exact ⟨rfl, HB.out⟩
set_option maxHeartbeats 4000000 in
theorem renc_ok (s : ByteArray) (p : Nat) (h1 : 1 ≤ p) (h2 : p ≤ 64) (h3 : s.size + p ≤ 255) (w : World) : Calls Try.prog 14 #[.string s, .int .i64 p] w fun e w' => e = .returned (.tuple #[.string ⟨(encB s.data.toList p).toArray⟩, .int .i64 0]) ∧ Below w.heap.size w w' := by
  obtain ⟨l, hl⟩ : ∃ l, s.data.toList = l := ⟨_, rfl⟩
  obtain ⟨n, hn⟩ : ∃ n, s.size = n := ⟨_, rfl⟩
  have hll : l.length = n := by rw [← hl, ← hn]; rfl
  have hsa : ∀ m : List UInt8, s ++ ⟨m.toArray⟩ = ⟨(l ++ m).toArray⟩ := by
    intro m
    apply ByteArray.ext
    rw [ByteArray.data_append, ← hl]
    simp
  have e1 : IntKind.i64.wrap ((s.size : Int) + p) = (n : Int) + p := by rw [hn]; exact IntWalk.i64_in _ (by omega)
  have e2 : decide ((255 : Int) < (n : Int) + p) = false := decide_eq_false (by omega)
  have e3 : (s.size : Int) = n := by omega
  have hnp : n + p ≤ 255 := by omega
  rw [hl]
  have HLL := Lib.hid hll
  have HL := Lib.hid hl
  have HN := Lib.hid hn
  have HSA := Lib.hid hsa
  clear hl hll hsa h3 hn
  go_enter Try.func14, Try.ntmps14
  go_wp2_with fail
  refine (rgen_ok p h1 h2 _).mono ?_
  rintro e w1 ⟨g, rfl, hg, hC, hB⟩
  have HC := Lib.hid hC
  have HB := Lib.hid hB
  have HGL := Lib.hid (gen_len p)
  clear hC hB
  have hgl : g < w1.heap.size := HC.out.1
  have hwz := HB.out.size
  go_wp2_with (first
    | (with_reducible refine wpList_bytes_spare rfl _ _ _ 5 rfl Try.underlying9 Try.underlying22 Try.underlying5 s n HN.out (by unfold maxLen; omega) rfl ?_; intro cap w2 hcap hcm hC2 hb2 hz2; rw [HL.out] at hC2)
    | (at_builtin; refine wpList_append_zeros rfl _ _ 22 3 5 (by rfl) Try.underlying22 Try.underlying3 Try.infoU8 w1.heap.size n cap p l HLL.out (by omega) (by omega) hcap hcm hC2 w1.heap.size (Nat.le_refl _) (by rfl) (by rfl) ?_; intro B3 cap3 w3 hB3 hcap3 hcm3 hC3 hb3))
  have HG3 := Lib.hid (HC.out.kept (hb2.trans hb3))
  have HB3 := Lib.hid (bt HB.out (hb2.trans hb3))
  have HC3 := Lib.hid hC3
  have hg3 : g < B3 := by omega
  have hw3 : w.heap.size ≤ B3 := by omega
  clear hb2 hb3 hC2 hC3 hz2 hcap hcm HC HB
  go_wp2_with fail
  go_loopw [9] (fun i wr => ∃ (k : Nat) (row : List UInt8), k ≤ n ∧ i = .int .i64 k ∧ Cells wr B3 row ∧ Hid (RowInv l p k row) ∧ Cells wr g (genB p) ∧ Below w.heap.size w wr) (fun i _ => n - (intOf i).toNat)
  case atStart => exact ⟨0, _, Nat.zero_le _, rfl, HC3.out, rowInv_start l p, HG3.out, HB3.out⟩
  case round =>
    clear HC3 HG3 HB3
    obtain ⟨k, row, hk, rfl, hC, hI, hG, hB⟩ := hrel
    obtain ⟨wo, hwo⟩ : ∃ wo : World, wo = wr := ⟨_, rfl⟩
    have hrl : row.length = n + p := by rw [hI.out.1, HLL.out]
    by_cases hlt : k < n
    · have hst := rowInv_step l p k row h1 (by rw [HLL.out]; exact hlt) hI.out
      have hco := hC.at k (by omega)
      obtain ⟨f, hf⟩ : ∃ f, row[k]?.getD 0 = f := ⟨_, rfl⟩
      rw [hf] at hco hst
      have HST := Lib.hid hst
      have HRL := Lib.hid hrl
      have HC := Lib.hid hC
      have HG := Lib.hid hG
      have HB := Lib.hid hB
      have i1 : (k : Int) < (n : Int) + p := by omega
      clear hC hG hB hI hst hrl hf
      go_wp2_with fail
      go_loopw [11] (fun i wr => ∃ r : Nat, r ≤ p + 1 ∧ i = .int .i64 r ∧ Cells wr B3 (rwIn row (genB p) f k p r) ∧ Cells wr g (genB p) ∧ Below w.heap.size w wr) (fun i _ => p + 1 - (intOf i).toNat)
      case atStart => exact ⟨0, Nat.zero_le _, rfl, HC.out, HG.out, HB.out⟩
      case round =>
        clear HC HG HB hco hwo
        obtain ⟨r, hr, rfl, hC, hG, hB⟩ := hrel
        by_cases hlr : r ≤ p
        · have hlen : (rwIn row (genB p) f k p r).length = n + p := by rw [rwIn_len, HRL.out]
          have hst : Hid (rwIn row (genB p) f k p (r + 1) = (rwIn row (genB p) f k p r).set (k + r) ((rwIn row (genB p) f k p r)[k + r]?.getD 0 ^^^ F.mulB f ((genB p)[p - r]?.getD 0))) := rfl
          obtain ⟨L, hL⟩ : ∃ L, rwIn row (genB p) f k p r = L := ⟨_, rfl⟩
          rw [hL] at hst hlen hC
          have hco := hC.at (k + r) (by omega)
          have hfo := hC.free (k + r) (by omega)
          have hgo := hG.at (p - r) (by rw [HGL.out]; omega)
          obtain ⟨x, hx⟩ : ∃ x, (genB p)[p - r]?.getD 0 = x := ⟨_, rfl⟩
          rw [hx] at hst hgo
          obtain ⟨y, hy⟩ : ∃ y, L[k + r]?.getD 0 = y := ⟨_, rfl⟩
          rw [hy] at hst hco
          obtain ⟨z, hz⟩ : ∃ z, y ^^^ F.mulB f x = z := ⟨_, rfl⟩
          rw [hz] at hst
          have hxx := xor_r _ _ _ hz
          have HC := Lib.hid hC
          have HG := Lib.hid hG
          have HB := Lib.hid hB
          have HLEN := Lib.hid hlen
          clear hL hx hy hz hC hG hB hlen
          have j1 : IntKind.i64.wrap ((k : Int) + r) = (k : Int) + r := IntWalk.i64_in _ (by omega)
          have j2 : IntKind.i64.wrap ((p : Int) - r) = (p : Int) - r := IntWalk.i64_in _ (by omega)
          have j3 : ((k : Int) + r).toNat = k + r := by omega
          have j4 : ((p : Int) - r).toNat = p - r := by omega
          have j5 : 0 ≤ (k : Int) + r := by omega
          have j6 : (k : Int) + r < (n : Int) + p := by omega
          have j7 : (r : Int) ≤ (p : Int) := by omega
          have j8 : (p : Int) - r < (p : Int) + 1 := by omega
          go_wp2_with fail
          go_still_tail 20, (by kernel_rfl)
          still_call (still_same (times_any f x _))
          repeat still_step
          refine wpStill_nil ?_
          change wpList _ _ _ _ _ wr.drew
          go_wp2
          go_roundw
          case rel => exact ⟨r + 1, by omega, by go_num, by rw [hst.out]; exact (HC.out.set _ (by rw [HLEN.out]; omega) z).drew, (HG.out.other _ (by show B3 ≠ g; omega) _).drew, (HB.out.setCell hw3 _).drew⟩
          case measure => simp [intOf] <;> omega
        · obtain rfl : r = p + 1 := by omega
          have HC := Lib.hid hC
          have HG := Lib.hid hG
          have HB := Lib.hid hB
          clear hC hG hB
          go_wp2
          go_roundw
          case rel => exact ⟨k + 1, _, by omega, by go_num, HC.out, HST.out, HG.out, HB.out⟩
          case measure => simp [intOf] <;> omega
    · obtain rfl : k = n := by omega
      have hend := rowInv_end l p row (by rw [HLL.out]; exact hI.out)
      rw [HLL.out] at hend
      have hcv : (convert 22 9 (.slice (some ⟨B3, k, none⟩) p (cap3 - k))).run Try.prog wr = .ok (.string ⟨(lfTo l (genB p) p k).toArray⟩) wr := by
        have hbk := run_convert_bytes_back (P := Try.prog) wr 22 9 5 ⟨B3, k, none⟩ (cap3 - k) (lfTo l (genB p) p k) Try.underlying22 Try.underlying5 Try.underlying9 (by
          intro j hj'
          have hj := hj'
          rw [lfTo_len] at hj
          have e1 : (⟨B3, k, none⟩ : Addr).add j = ⟨B3, k + j, none⟩ := by unfold Addr.add; split <;> simp_all
          have := hC.at (k + j) (by omega)
          have hj2 := congrArg (fun L : List UInt8 => L[j]?.getD 0) hend
          simp only [List.getElem?_drop] at hj2
          rw [e1, this, hj2, List.getElem?_eq_getElem hj']; rfl)
        rw [lfTo_len] at hbk
        exact hbk
      obtain ⟨m, hm⟩ : ∃ m, lfTo l (genB p) p k = m := ⟨_, rfl⟩
      have hml : m.length = p := by rw [← hm, lfTo_len]
      rw [hm] at hcv
      have hcat : ¬ 9223372036854775807 < s.size + m.length := by have := HN.out; omega
      have HM := Lib.hid hm
      have HB := Lib.hid hB
      have c1 : (k : Int) ≤ (k : Int) + p := by omega
      have c2 : (k : Int) + p ≤ cap3 := by omega
      have c3 : ¬ (cap3 : Int) = k := by omega
      have c4 : ¬ cap3 = k := by omega
      clear hC hG hB hm hml hend hI
      go_wp2
      go_ret2
      exact ⟨ret_si (by unfold encB; rw [HLL.out, HM.out, ← HSA.out]), HB.out⟩
end Go.Proofs.Ytjepedejclfnmaa
