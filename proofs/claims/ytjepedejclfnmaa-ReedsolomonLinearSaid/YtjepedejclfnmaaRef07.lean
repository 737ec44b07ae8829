/-
  The walks of the reference of layer 7: Times, Power, Value, Differ, Xor.
-/
import Derived.Test.YtjepedejclfnmaaRsAw
import Derived.Test.YtjepedejclfnmaaCwPlain
namespace Go.Proofs.Ytjepedejclfnmaa
open Go.RowKit
set_option linter.unusedVariables false

theorem u8_bit (b k : Nat) (hb : b < 256) : bits .and .u8 ((b : Int) / 2 ^ k) 1 = if b.testBit k then 1 else 0 := by
  have e : ((b : Int) / 2 ^ k) = ((b / 2 ^ k : Nat) : Int) := by
    rw [Int.natCast_ediv]; simp
  have hlt : b / 2 ^ k < 256 := Nat.lt_of_le_of_lt (Nat.div_le_self _ _) hb
  rw [e, F.and_one _ hlt, Nat.testBit_eq_decide_div_mod_eq]
  by_cases h : b / 2 ^ k % 2 = 1
  · rw [h]; rfl
  · rw [show b / 2 ^ k % 2 = 0 by omega]; rfl

set_option maxRecDepth 100000 in
set_option maxHeartbeats 400000 in
theorem times_nat (a b : Nat) (ha : a < 256) (hb : b < 256) (w : World) : Calls Try.prog 26 #[.int .u8 a, .int .u8 b] w fun e w' => e = .returned (.int .u8 (F.mulN 8 a b)) ∧ w = w' := by
  go_enter Try.func26, Try.ntmps26
  go_wp2
  go_loop [6, 7] (fun p k => ∃ K : Nat, K ≤ 8 ∧ k = .int .i64 K ∧ p = .int .i64 (F.polyTo a b K)) (fun _ y => 8 - (intOf y).toNat)
  case atStart => exact ⟨0, by omega, rfl, rfl⟩
  case round =>
    obtain ⟨K, hK, rfl, rfl⟩ := hrel
    have hP := F.polyTo_lt a b K ha hK
    obtain ⟨P, hPe⟩ : ∃ P, F.polyTo a b K = P := ⟨_, rfl⟩
    rw [hPe] at hP ⊢
    have HP := Lib.hid hPe
    clear hPe
    by_cases hlt : K < 8
    · have hsh := F.shift_lt a K ha hlt
      have e1 : ((a : Int) * 2 ^ K) = ((a <<< K : Nat) : Int) := by rw [Nat.shiftLeft_eq]; simp
      have h2 : (a : Int) * 2 ^ K ≤ 32768 := by rw [e1]; omega
      have h3 : 0 ≤ (a : Int) * 2 ^ K := by rw [e1]; exact Int.natCast_nonneg _
      have hx : bits .xor .i64 (P : Int) ((a : Int) * 2 ^ K) = ((P ^^^ (a <<< K) : Nat) : Int) := by rw [e1]; exact i64_xor_nat _ _ (by omega) (by omega)
      have hb1 := u8_bit b K hb
      clear e1 hsh
      by_cases ht : b.testBit K = true
      · rw [if_pos ht] at hb1
        have HT := Lib.hid ht
        clear ht
        go_wp2
        go_round
        case rel => exact ⟨K + 1, by omega, by go_num, by simp only [F.polyTo]; rw [if_pos HT.out, HP.out]⟩
        case measure => simp [intOf]; omega
      · rw [if_neg ht] at hb1
        have HT := Lib.hid ht
        clear ht
        go_wp2
        go_round
        case rel => exact ⟨K + 1, by omega, by go_num, by simp only [F.polyTo]; rw [if_neg HT.out, HP.out, Nat.xor_zero]⟩
        case measure => simp [intOf]; omega
    · obtain rfl : K = 8 := by omega
      go_wp2
      go_loop [6, 8] (fun p k => ∃ J : Nat, J ≤ 7 ∧ k = .int .i64 (14 - (J : Int)) ∧ p = .int .i64 (F.redTo P J)) (fun _ y => (intOf y).toNat)
      case atStart => exact ⟨0, by omega, rfl, rfl⟩
      case round =>
        obtain ⟨J, hJ, rfl, rfl⟩ := hrel
        have hR := F.redTo_lt P J hP
        obtain ⟨R, hRe⟩ : ∃ R, F.redTo P J = R := ⟨_, rfl⟩
        rw [hRe] at hR ⊢
        have HR := Lib.hid hRe
        clear hRe
        by_cases hlt : J < 7
        · have hsh := F.shift285_lt (14 - J) (by omega)
          have e1 : ((285 : Int) * (2 : Int) ^ (14 - J - 8)) = ((285 <<< (14 - J - 8) : Nat) : Int) := by rw [Nat.shiftLeft_eq]; simp
          have h2 : (285 : Int) * (2 : Int) ^ (14 - J - 8) ≤ 65536 := by rw [e1]; omega
          have h3 : 0 ≤ (285 : Int) * (2 : Int) ^ (14 - J - 8) := by rw [e1]; exact Int.natCast_nonneg _
          have hx : bits .xor .i64 (R : Int) ((285 : Int) * (2 : Int) ^ (14 - J - 8)) = ((R ^^^ (285 <<< (14 - J - 8)) : Nat) : Int) := by rw [e1]; exact i64_xor_nat _ _ (by omega) (by omega)
          have hb1 := i64_bit R (14 - J) (by omega)
          clear e1 hsh
          by_cases ht : R.testBit (14 - J) = true
          · rw [if_pos ht] at hb1
            have HT := Lib.hid ht
            clear ht
            go_wp2
            go_round
            case rel => exact ⟨J + 1, by omega, by go_num, by simp only [F.redTo, F.redAt]; rw [HR.out, if_pos HT.out]⟩
            case measure => simp [intOf]; omega
          · rw [if_neg ht] at hb1
            have HT := Lib.hid ht
            clear ht
            go_wp2
            go_round
            case rel => exact ⟨J + 1, by omega, by go_num, by simp only [F.redTo, F.redAt]; rw [HR.out, if_neg HT.out]⟩
            case measure => simp [intOf]; omega
        · obtain rfl : J = 7 := by omega
          go_wp2
          go_ret
          have h1 : R = F.mulN 8 a b := by rw [← HR.out, ← HP.out]; exact F.poly_mul a b ha hb
          have h2 := F.mulN_lt 8 a b ha
          exact ⟨ret_u8 (by rw [h1]; omega), rfl⟩
theorem times_any (a b : UInt8) (w : World) : Calls Try.prog 26 #[.int .u8 a.toNat, .int .u8 b.toNat] w fun e w' => e = .returned (.int .u8 (F.mulB a b).toNat) ∧ w = w' := by
  have h := times_nat a.toNat b.toNat a.toNat_lt b.toNat_lt w
  have e : (F.mulB a b).toNat = F.mulN 8 a.toNat b.toNat := UInt8.toNat_ofNat_of_lt' (F.mulN_lt 8 _ _ a.toNat_lt)
  rw [e]; exact h

theorem rpow_any (n : Nat) (hn : n < 1000000) (w : World) : Calls Try.prog 23 #[.int .i64 n] w fun e w' => e = .returned (.int .u8 (F.expB n).toNat) ∧ w = w' := by
  go_enter Try.func23, Try.ntmps23
  go_wp2
  go_loop [3, 4] (fun y i => ∃ k : Nat, k ≤ n ∧ i = .int .i64 k ∧ y = .int .u8 (F.expB k).toNat) (fun _ i => n - (intOf i).toNat)
  case atStart => exact ⟨0, Nat.zero_le _, rfl, rfl⟩
  case round =>
    obtain ⟨k, hk, rfl, rfl⟩ := hrel
    by_cases hlt : k < n
    · have hst : Hid (F.expB (k + 1) = F.mulB (F.expB k) 2) := rfl
      obtain ⟨y, hy⟩ : ∃ y, F.expB k = y := ⟨_, rfl⟩
      rw [hy] at hst ⊢
      clear hy
      go_wp2_with fail
      refine (times_any y 2 _).mono ?_
      rintro e w' ⟨rfl, rfl⟩
      go_wp2
      go_round
      case rel => exact ⟨k + 1, by omega, by go_num, by rw [hst.out]⟩
      case measure => simp [intOf] <;> omega
    · obtain rfl : k = n := by omega
      go_wp2
      go_ret
      exact ⟨rfl, rfl⟩

theorem str_at {s : ByteArray} {l : List UInt8} (hl : s.data.toList = l) : (l.length = s.size) ∧ ∀ k (h : k < s.size), s[k] = l[k]?.getD 0 := by
  refine ⟨by rw [← hl]; rfl, fun k h => ?_⟩
  rw [← hl, Array.getElem?_toList, Array.getElem?_eq_getElem (by exact h)]; rfl

theorem xor_r (a b r : UInt8) (h : a ^^^ b = r) : bits .xor .u8 (a.toNat : Int) (b.toNat : Int) = (r.toNat : Int) := by rw [u8_xor_nat _ _ a.toNat_lt b.toNat_lt, ← h, UInt8.toNat_xor]

set_option maxRecDepth 100000 in
theorem rvalue_any (s : ByteArray) (x : UInt8) (hs : s.size ≤ 100000) (w : World) : Calls Try.prog 30 #[.string s, .int .u8 x.toNat] w fun e w' => e = .returned (.int .u8 (horn s.data.toList x).toNat) ∧ ∃ n, w' = w.drewN n := by
  obtain ⟨l, hl⟩ : ∃ l, s.data.toList = l := ⟨_, rfl⟩
  obtain ⟨hln, hat⟩ := str_at hl
  rw [hl]
  have HSL := Lib.hid hln
  have HAT := Lib.hid hat
  clear hl hln hat
  go_enter Try.func30, Try.ntmps30
  go_wp2
  go_loopw [5, 6] (fun y i wr => ∃ k : Nat, k ≤ s.size ∧ i = .int .i64 k ∧ y = .int .u8 (hornTo l x k).toNat ∧ ∃ q, wr = w.drewN q) (fun _ i _ => s.size - (intOf i).toNat)
  case atStart => exact ⟨0, Nat.zero_le _, rfl, rfl, 0, rfl⟩
  case round =>
    obtain ⟨k, hk, rfl, rfl, q, hq⟩ := hrel
    have HQ := Lib.hid hq
    clear hq
    by_cases hlt : k < s.size
    · have hsk := HAT.out k hlt
      have hst : Hid (hornTo l x (k + 1) = F.mulB (hornTo l x k) x ^^^ (l[k]?.getD 0)) := rfl
      obtain ⟨y, hy⟩ : ∃ y, l[k]?.getD 0 = y := ⟨_, rfl⟩
      obtain ⟨z, hz⟩ : ∃ z, hornTo l x k = z := ⟨_, rfl⟩
      rw [hy] at hsk hst
      rw [hz] at hst ⊢
      obtain ⟨r, hr⟩ : ∃ r, F.mulB z x ^^^ y = r := ⟨_, rfl⟩
      have hx := xor_r _ _ _ hr
      have HR := Lib.hid hr
      have e5 : (k : Int) < (s.size : Int) := by omega
      clear hy hz hr
      go_wp2_with fail
      go_quiet ((go_at_call 26; exact quiet_same (times_any z x _)))
      go_wp2
      go_roundw
      case rel => exact ⟨k + 1, by omega, by go_num, by rw [hst.out, HR.out], q + nq, by rw [HQ.out, World.drewN_drewN]⟩
      case measure => simp [intOf] <;> omega
    · obtain rfl : k = s.size := by omega
      go_wp2
      go_ret
      exact ⟨ret_u8 (by unfold horn; rw [HSL.out]), q, HQ.out⟩
end Go.Proofs.Ytjepedejclfnmaa
