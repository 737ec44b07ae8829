/-
  The walks of the reference of layer 5: Add, Mul.
-/
import Derived.Test.YtoafeoppfpijdaaGfMul
import Derived.Test.YtoafeoppfpijdaaGfRefPlain
namespace Go.Proofs.Ytoafeoppfpijdaa
open Go.RowKit
set_option linter.unusedVariables false

theorem radd_any (a b : UInt8) (w : World) : Calls Try.prog 20 #[.int .u8 a.toNat, .int .u8 b.toNat] w fun e w' => e = .returned (.int .u8 (a ^^^ b).toNat) ∧ w = w' := by
  have hx : bits .xor .u8 (a.toNat : Int) (b.toNat : Int) = ((a ^^^ b).toNat : Int) := by rw [u8_xor_nat _ _ a.toNat_lt b.toNat_lt, UInt8.toNat_xor]
  have ha := a.toNat_lt
  have hb := b.toNat_lt
  go_enter Try.func20, Try.ntmps20
  go_wp2
  go_ret
  exact ⟨rfl, rfl⟩

set_option maxRecDepth 100000 in
set_option maxHeartbeats 400000 in
theorem rmul_nat (a b : Nat) (ha : a < 256) (hb : b < 256) (w : World) : Calls Try.prog 21 #[.int .u8 a, .int .u8 b] w fun e w' => e = .returned (.int .u8 (F.mulN 8 a b)) ∧ w = w' := by
  go_enter Try.func21, Try.ntmps21
  go_wp2
  go_loop [5, 6] (fun p k => ∃ K : Nat, K ≤ 8 ∧ k = .int .i64 K ∧ p = .int .i64 (F.polyTo a b K)) (fun _ y => 8 - (intOf y).toNat)
  case atStart => exact ⟨0, by omega, rfl, rfl⟩
  case round =>
    obtain ⟨K, hK, rfl, rfl⟩ := hrel
    have hP := F.polyTo_lt a b K ha hK
    obtain ⟨P, hPe⟩ : ∃ P, F.polyTo a b K = P := ⟨_, rfl⟩
    rw [hPe] at hP ⊢
    have HP := Lib.hid hPe
    clear hPe
    by_cases hlt : K < 8
    · have hsh := F.shift_lt a K ha hlt
      have e1 : ((a : Int) * 2 ^ K) = ((a <<< K : Nat) : Int) := by rw [Nat.shiftLeft_eq]; simp
      have h2 : (a : Int) * 2 ^ K ≤ 32768 := by rw [e1]; omega
      have h3 : 0 ≤ (a : Int) * 2 ^ K := by rw [e1]; exact Int.natCast_nonneg _
      have hx : bits .xor .i64 (P : Int) ((a : Int) * 2 ^ K) = ((P ^^^ (a <<< K) : Nat) : Int) := by rw [e1]; exact i64_xor_nat _ _ (by omega) (by omega)
      have hb1 := i64_bit b K (by omega)
      clear e1 hsh
      by_cases ht : b.testBit K = true
      · rw [if_pos ht] at hb1
        have HT := Lib.hid ht
        clear ht
        go_wp2
        go_round
        case rel => exact ⟨K + 1, by omega, by go_num, by simp only [F.polyTo]; rw [if_pos HT.out, HP.out]⟩
        case measure => simp [intOf]; omega
      · rw [if_neg ht] at hb1
        have HT := Lib.hid ht
        clear ht
        go_wp2
        go_round
        case rel => exact ⟨K + 1, by omega, by go_num, by simp only [F.polyTo]; rw [if_neg HT.out, HP.out, Nat.xor_zero]⟩
        case measure => simp [intOf]; omega
    · obtain rfl : K = 8 := by omega
      go_wp2
      go_loop [5, 7] (fun p k => ∃ J : Nat, J ≤ 7 ∧ k = .int .i64 (14 - (J : Int)) ∧ p = .int .i64 (F.redTo P J)) (fun _ y => (intOf y).toNat)
      case atStart => exact ⟨0, by omega, rfl, rfl⟩
      case round =>
        obtain ⟨J, hJ, rfl, rfl⟩ := hrel
        have hR := F.redTo_lt P J hP
        obtain ⟨R, hRe⟩ : ∃ R, F.redTo P J = R := ⟨_, rfl⟩
        rw [hRe] at hR ⊢
        have HR := Lib.hid hRe
        clear hRe
        by_cases hlt : J < 7
        · have hsh := F.shift285_lt (14 - J) (by omega)
          have e1 : ((285 : Int) * (2 : Int) ^ (14 - J - 8)) = ((285 <<< (14 - J - 8) : Nat) : Int) := by rw [Nat.shiftLeft_eq]; simp
          have h2 : (285 : Int) * (2 : Int) ^ (14 - J - 8) ≤ 65536 := by rw [e1]; omega
          have h3 : 0 ≤ (285 : Int) * (2 : Int) ^ (14 - J - 8) := by rw [e1]; exact Int.natCast_nonneg _
          have hx : bits .xor .i64 (R : Int) ((285 : Int) * (2 : Int) ^ (14 - J - 8)) = ((R ^^^ (285 <<< (14 - J - 8)) : Nat) : Int) := by rw [e1]; exact i64_xor_nat _ _ (by omega) (by omega)
          have hb1 := i64_bit R (14 - J) (by omega)
          clear e1 hsh
          by_cases ht : R.testBit (14 - J) = true
          · rw [if_pos ht] at hb1
            have HT := Lib.hid ht
            clear ht
            go_wp2
            go_round
            case rel => exact ⟨J + 1, by omega, by go_num, by simp only [F.redTo, F.redAt]; rw [HR.out, if_pos HT.out]⟩
            case measure => simp [intOf]; omega
          · rw [if_neg ht] at hb1
            have HT := Lib.hid ht
            clear ht
            go_wp2
            go_round
            case rel => exact ⟨J + 1, by omega, by go_num, by simp only [F.redTo, F.redAt]; rw [HR.out, if_neg HT.out]⟩
            case measure => simp [intOf]; omega
        · obtain rfl : J = 7 := by omega
          go_wp2
          go_ret
          have h1 : R = F.mulN 8 a b := by rw [← HR.out, ← HP.out]; exact F.poly_mul a b ha hb
          have h2 := F.mulN_lt 8 a b ha
          exact ⟨ret_u8 (by rw [h1]; omega), rfl⟩

theorem rmul_any (a b : UInt8) (w : World) : Calls Try.prog 21 #[.int .u8 a.toNat, .int .u8 b.toNat] w fun e w' => e = .returned (.int .u8 (F.mulB a b).toNat) ∧ w = w' := by
  have h := rmul_nat a.toNat b.toNat a.toNat_lt b.toNat_lt w
  have e : (F.mulB a b).toNat = F.mulN 8 a.toNat b.toNat := UInt8.toNat_ofNat_of_lt' (F.mulN_lt 8 _ _ a.toNat_lt)
  rw [e]; exact h
end Go.Proofs.Ytoafeoppfpijdaa
