/-
  The walks of Log: the program's and the reference's.
-/
import Derived.Test.YtoafeoppfpijdaaGfRef2
namespace Go.Proofs.Ytoafeoppfpijdaa
open Go.RowKit
set_option linter.unusedVariables false

namespace F
def logB (a : UInt8) : Nat := log (mk a)
theorem itN_lt (k : Nat) : ∀ x, x < 256 → itN k x < 256 := by
  induction k with
  | zero => intro x h; exact h
  | succ k ih => intro x h; exact ih _ (dbl_lt x h)
theorem it_exp (k : Nat) : itN k 1 = (exp k).byte.toNat := (exp_nat k).symm
theorem pow_it (k : Nat) : powN 2 k = itN k 1 := by rw [← expB_nat]; exact exp_nat k
theorem log_hit (a : UInt8) (k : Nat) (hk : k < 255) (h : itN k 1 = a.toNat) : logB a = k ∧ a ≠ 0 := by
  have e : exp k = mk a := ext (by rw [exp_nat]; exact h)
  refine ⟨log_unique hk e, fun z => ?_⟩
  exact exp_ne_zero k (e.trans (by rw [z]; rfl))
theorem log_miss (a : UInt8) (ha : a ≠ 0) (k : Nat) (h : k < logB a) : itN k 1 ≠ a.toNat := by
  intro e
  exact exp_ne_of_lt_log (a := mk a) k h (ext (by rw [exp_nat]; exact e))
theorem log_end (a : UInt8) (ha : a ≠ 0) : itN (logB a) 1 = a.toNat := by
  rw [it_exp]; show (exp (log (mk a))).byte.toNat = _; rw [exp_log (a := mk a) ha]; rfl
theorem logB_lt (a : UInt8) (ha : a ≠ 0) : logB a < 255 := log_lt (a := mk a) ha
end F

set_option maxRecDepth 100000 in
set_option maxHeartbeats 400000 in
theorem log_nz (a : UInt8) (ha : a ≠ 0) (w : World) : Calls Try.prog 14 #[.int .u8 a.toNat] w fun e w' => e = .returned (.tuple #[.int .i64 (F.logB a), .bool true]) ∧ w = w' := by
  have hz : ((a.toNat : Int) == 0) = false := beq_eq_false_iff_ne.2 (fun e => ha (UInt8.toNat_inj.1 (by show a.toNat = 0; omega)))
  have hl := F.logB_lt a ha
  go_enter Try.func14, Try.ntmps14
  go_wp2
  go_loop [4, 5] (fun n x => ∃ K : Nat, K ≤ F.logB a ∧ n = .int .i64 K ∧ x = .int .u8 (F.itN K 1)) (fun n _ => F.logB a - (intOf n).toNat)
  case atStart => exact ⟨0, by omega, rfl, rfl⟩
  case round =>
    obtain ⟨K, hK, rfl, rfl⟩ := hrel
    have hb := F.itN_lt K 1 (by omega)
    have hsucc := Lib.hid (F.itN_succ K 1)
    by_cases hlt : K < F.logB a
    · have hm := F.log_miss a ha K hlt
      have hne : ((F.itN K 1 : Int) != (a.toNat : Int)) = true := by rw [bne_iff_ne]; omega
      clear hm
      go_wp2_with (go_at_call 28; refine (double_any _ hb _).mono ?_; rintro e w' ⟨rfl, rfl⟩)
      go_round
      case rel => exact ⟨K + 1, by omega, by go_num, by rw [hsucc.out]⟩
      case measure => simp [intOf]; omega
    · obtain rfl : K = F.logB a := by omega
      have he := F.log_end a ha
      have hne : ((F.itN (F.logB a) 1 : Int) != (a.toNat : Int)) = false := by rw [he]; simp
      clear he
      go_wp2
      go_ret2
      exact ⟨rfl, rfl⟩
theorem log_z (w : World) : Calls Try.prog 14 #[.int .u8 0] w fun e w' => e = .returned (.tuple #[.int .i64 0, .bool false]) ∧ w = w' := by
  go_enter Try.func14, Try.ntmps14
  go_wp2
  go_ret2
  exact ⟨rfl, rfl⟩

set_option maxRecDepth 100000 in
set_option maxHeartbeats 400000 in
theorem rlog_nz (a : UInt8) (ha : a ≠ 0) (w : World) : Calls Try.prog 22 #[.int .u8 a.toNat] w fun e w' => e = .returned (.tuple #[.int .i64 (F.logB a), .bool true]) ∧ w = w' := by
  have hl := F.logB_lt a ha
  go_enter Try.func22, Try.ntmps22
  go_wp2
  go_loop [4, 5] (fun x n => ∃ K : Nat, K ≤ F.logB a ∧ n = .int .i64 K ∧ x = .int .u8 (F.powN 2 K)) (fun _ n => F.logB a - (intOf n).toNat)
  case atStart => exact ⟨0, by omega, rfl, rfl⟩
  case round =>
    obtain ⟨K, hK, rfl, rfl⟩ := hrel
    have hb := F.powN_lt 2 K (by omega)
    by_cases hlt : K < F.logB a
    · have hm := F.log_miss a ha K hlt
      rw [← F.pow_it] at hm
      have hne : ((F.powN 2 K : Int) == (a.toNat : Int)) = false := by rw [beq_eq_false_iff_ne]; omega
      clear hm
      go_wp2_with (go_at_call 21; refine (rmul_nat _ 2 hb (by omega) _).mono ?_; rintro e w' ⟨rfl, rfl⟩)
      go_round
      case rel => exact ⟨K + 1, by omega, by go_num, rfl⟩
      case measure => simp [intOf]; omega
    · obtain rfl : K = F.logB a := by omega
      have he := F.log_end a ha
      have hne : ((F.powN 2 (F.logB a) : Int) == (a.toNat : Int)) = true := by rw [F.pow_it, he]; simp
      clear he
      go_wp2
      go_ret2
      exact ⟨rfl, rfl⟩
set_option maxRecDepth 100000 in
set_option maxHeartbeats 400000 in
theorem rlog_z (w : World) : Calls Try.prog 22 #[.int .u8 0] w fun e w' => e = .returned (.tuple #[.int .i64 0, .bool false]) ∧ w = w' := by
  go_enter Try.func22, Try.ntmps22
  go_wp2
  go_loop [4, 5] (fun x n => ∃ K : Nat, K ≤ 255 ∧ n = .int .i64 K ∧ x = .int .u8 (F.powN 2 K)) (fun _ n => 255 - (intOf n).toNat)
  case atStart => exact ⟨0, by omega, rfl, rfl⟩
  case round =>
    obtain ⟨K, hK, rfl, rfl⟩ := hrel
    have hb := F.powN_lt 2 K (by omega)
    have hm : F.powN 2 K ≠ 0 := by
      rw [F.pow_it, F.it_exp]; exact fun e => F.exp_ne_zero K (F.ext e)
    have hne : ((F.powN 2 K : Int) == 0) = false := by rw [beq_eq_false_iff_ne]; omega
    clear hm
    by_cases hlt : K < 255
    · go_wp2_with (go_at_call 21; refine (rmul_nat _ 2 hb (by omega) _).mono ?_; rintro e w' ⟨rfl, rfl⟩)
      go_round
      case rel => exact ⟨K + 1, by omega, by go_num, rfl⟩
      case measure => simp [intOf]; omega
    · go_wp2
      go_ret2
      exact ⟨rfl, rfl⟩
end Go.Proofs.Ytoafeoppfpijdaa
