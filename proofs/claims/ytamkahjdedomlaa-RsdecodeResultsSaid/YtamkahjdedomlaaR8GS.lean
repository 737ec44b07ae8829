/-
  The reference of layer 5 in seat 08: Mul, Inv, Exp.
  The reference of layer 7 in seat 08: Times, Power, Value, Syndromes.
-/
import Derived.Test.YtamkahjdedomlaaEx
import Derived.Test.YtamkahjdedomlaaGfRefPlain
import Derived.Test.YtamkahjdedomlaaEnc
import Derived.Test.YtamkahjdedomlaaCwPlain
import Derived.Test.YtamkahjdedomlaaApZ
namespace Go.Proofs.Ytamkahjdedomlaa
open Go.RowKit
set_option linter.unusedVariables false

set_option maxRecDepth 100000 in
set_option maxHeartbeats 400000 in
theorem rmul_nat (a b : Nat) (ha : a < 256) (hb : b < 256) (w : World) : Calls Try.prog 60 #[.int .u8 a, .int .u8 b] w fun e w' => e = .returned (.int .u8 (F.mulN 8 a b)) ∧ w = w' := by
  go_enter Try.func60, Try.ntmps60
  go_wp2
  go_loop [5, 6] (fun p k => ∃ K : Nat, K ≤ 8 ∧ k = .int .i64 K ∧ p = .int .i64 (F.polyTo a b K)) (fun _ y => 8 - (intOf y).toNat)
  case atStart => exact ⟨0, by omega, rfl, rfl⟩
  case round =>
    obtain ⟨K, hK, rfl, rfl⟩ := hrel
    have hP := F.polyTo_lt a b K ha hK
    obtain ⟨P, hPe⟩ : ∃ P, F.polyTo a b K = P := ⟨_, rfl⟩
    rw [hPe] at hP ⊢
    have HP := Lib.hid hPe
    clear hPe
    by_cases hlt : K < 8
    · have hsh := F.shift_lt a K ha hlt
      have e1 : ((a : Int) * 2 ^ K) = ((a <<< K : Nat) : Int) := by rw [Nat.shiftLeft_eq]; simp
      have h2 : (a : Int) * 2 ^ K ≤ 32768 := by rw [e1]; omega
      have h3 : 0 ≤ (a : Int) * 2 ^ K := by rw [e1]; exact Int.natCast_nonneg _
      have hx : bits .xor .i64 (P : Int) ((a : Int) * 2 ^ K) = ((P ^^^ (a <<< K) : Nat) : Int) := by rw [e1]; exact i64_xor_nat _ _ (by omega) (by omega)
      have hb1 := i64_bit b K (by omega)
      clear e1 hsh
      by_cases ht : b.testBit K = true
      · rw [if_pos ht] at hb1
        have HT := Lib.hid ht
        clear ht
        go_wp2
        go_round
        case rel => exact ⟨K + 1, by omega, by go_num, by simp only [F.polyTo]; rw [if_pos HT.out, HP.out]⟩
        case measure => simp [intOf]; omega
      · rw [if_neg ht] at hb1
        have HT := Lib.hid ht
        clear ht
        go_wp2
        go_round
        case rel => exact ⟨K + 1, by omega, by go_num, by simp only [F.polyTo]; rw [if_neg HT.out, HP.out, Nat.xor_zero]⟩
        case measure => simp [intOf]; omega
    · obtain rfl : K = 8 := by omega
      go_wp2
      go_loop [5, 7] (fun p k => ∃ J : Nat, J ≤ 7 ∧ k = .int .i64 (14 - (J : Int)) ∧ p = .int .i64 (F.redTo P J)) (fun _ y => (intOf y).toNat)
      case atStart => exact ⟨0, by omega, rfl, rfl⟩
      case round =>
        obtain ⟨J, hJ, rfl, rfl⟩ := hrel
        have hR := F.redTo_lt P J hP
        obtain ⟨R, hRe⟩ : ∃ R, F.redTo P J = R := ⟨_, rfl⟩
        rw [hRe] at hR ⊢
        have HR := Lib.hid hRe
        clear hRe
        by_cases hlt : J < 7
        · have hsh := F.shift285_lt (14 - J) (by omega)
          have e1 : ((285 : Int) * (2 : Int) ^ (14 - J - 8)) = ((285 <<< (14 - J - 8) : Nat) : Int) := by rw [Nat.shiftLeft_eq]; simp
          have h2 : (285 : Int) * (2 : Int) ^ (14 - J - 8) ≤ 65536 := by rw [e1]; omega
          have h3 : 0 ≤ (285 : Int) * (2 : Int) ^ (14 - J - 8) := by rw [e1]; exact Int.natCast_nonneg _
          have hx : bits .xor .i64 (R : Int) ((285 : Int) * (2 : Int) ^ (14 - J - 8)) = ((R ^^^ (285 <<< (14 - J - 8)) : Nat) : Int) := by rw [e1]; exact i64_xor_nat _ _ (by omega) (by omega)
          have hb1 := i64_bit R (14 - J) (by omega)
          clear e1 hsh
          by_cases ht : R.testBit (14 - J) = true
          · rw [if_pos ht] at hb1
            have HT := Lib.hid ht
            clear ht
            go_wp2
            go_round
            case rel => exact ⟨J + 1, by omega, by go_num, by simp only [F.redTo, F.redAt]; rw [HR.out, if_pos HT.out]⟩
            case measure => simp [intOf]; omega
          · rw [if_neg ht] at hb1
            have HT := Lib.hid ht
            clear ht
            go_wp2
            go_round
            case rel => exact ⟨J + 1, by omega, by go_num, by simp only [F.redTo, F.redAt]; rw [HR.out, if_neg HT.out]⟩
            case measure => simp [intOf]; omega
        · obtain rfl : J = 7 := by omega
          go_wp2
          go_ret
          have h1 : R = F.mulN 8 a b := by rw [← HR.out, ← HP.out]; exact F.poly_mul a b ha hb
          have h2 := F.mulN_lt 8 a b ha
          exact ⟨ret_u8 (by rw [h1]; omega), rfl⟩

theorem rmul_any (a b : UInt8) (w : World) : Calls Try.prog 60 #[.int .u8 a.toNat, .int .u8 b.toNat] w fun e w' => e = .returned (.int .u8 (F.mulB a b).toNat) ∧ w = w' := by
  have h := rmul_nat a.toNat b.toNat a.toNat_lt b.toNat_lt w
  have e : (F.mulB a b).toNat = F.mulN 8 a.toNat b.toNat := UInt8.toNat_ofNat_of_lt' (F.mulN_lt 8 _ _ a.toNat_lt)
  rw [e]; exact h
set_option maxRecDepth 100000 in
set_option maxHeartbeats 400000 in
theorem rinv_any (a : UInt8) (w : World) : Calls Try.prog 62 #[.int .u8 a.toNat] w fun e w' => e = .returned (.tuple #[.int .u8 (F.invB a).toNat, .bool (decide (a ≠ 0))]) ∧ w = w' := by
  have hat := a.toNat_lt
  go_enter Try.func62, Try.ntmps62
  go_wp2
  go_loop [4] (fun x => ∃ X : Nat, 1 ≤ X ∧ X ≤ 256 ∧ x = .int .i64 X ∧ Hid (∀ y, 1 ≤ y → y < X → F.mN a.toNat y ≠ 1)) (fun y => 256 - (intOf y).toNat)
  case atStart => exact ⟨1, by omega, by omega, rfl, fun y h1 h2 => by omega⟩
  case round =>
    obtain ⟨X, hX1, hX2, rfl, hno⟩ := hrel
    by_cases hlt : X < 256
    · obtain ⟨m, hm⟩ : ∃ m, F.mulN 8 a.toNat X = m := ⟨_, rfl⟩
      have HM := Lib.hid hm
      have hc : ∀ w, Calls Try.prog 60 #[.int .u8 a.toNat, .int .u8 X] w fun e w' => e = .returned (.int .u8 m) ∧ w = w' := by
        intro w; rw [← hm]; exact rmul_nat a.toNat X hat hlt w
      have HCC := Lib.hid hc
      clear hm hc
      by_cases h1 : m = 1
      · subst h1
        go_wp2_with (go_at_call 60; refine (HCC.out _).mono ?_; rintro e w' ⟨rfl, rfl⟩)
        go_ret2
        exact ⟨ret_ub (F.invB_hit a X hlt HM.out).symm (decide_eq_true (F.hit_ne a X HM.out)).symm, rfl⟩
      · have hne : ((m : Int) == 1) = false := beq_eq_false_iff_ne.2 (by omega)
        go_wp2_with (go_at_call 60; refine (HCC.out _).mono ?_; rintro e w' ⟨rfl, rfl⟩)
        go_round
        case rel =>
          refine ⟨X + 1, by omega, by omega, by go_num, fun y h2 h3 => ?_⟩
          by_cases e : y = X
          · subst e; intro hh; exact h1 (HM.out.symm.trans hh)
          · exact hno.out y h2 (by omega)
        case measure => simp [intOf]; omega
    · obtain rfl : X = 256 := by omega
      go_wp2
      go_ret2
      have h0 := F.no_hit a hno.out
      subst h0
      exact ⟨ret_ub (by decide +kernel) (by decide), rfl⟩

theorem rinv_nz (a : UInt8) (h : a ≠ 0) (w : World) : Calls Try.prog 62 #[.int .u8 a.toNat] w fun e w' => e = .returned (.tuple #[.int .u8 (F.invB a).toNat, .bool true]) ∧ w = w' := by
  have := rinv_any a w
  rwa [decide_eq_true h] at this
theorem rinv_z (w : World) : Calls Try.prog 62 #[.int .u8 0] w fun e w' => e = .returned (.tuple #[.int .u8 0, .bool false]) ∧ w = w' := by
  have := rinv_any 0 w
  have h2 : F.invB 0 = 0 := by decide +kernel
  rw [h2] at this
  exact this
set_option maxRecDepth 100000 in
set_option maxHeartbeats 1000000 in
theorem rexp_any (n : Int) (h1 : -9223372036854775808 ≤ n) (h2 : n ≤ 9223372036854775807) (w : World) : Calls Try.prog 78 #[.int .i64 n] w fun e w' => e = .returned (.int .u8 (F.expB (F.red n)).toNat) ∧ w = w' := by
  obtain ⟨r, hr⟩ : ∃ r, F.red n = r := ⟨_, rfl⟩
  rw [hr]
  have hr2 : (n % 255) = (r : Int) := by unfold F.red at hr; omega
  have hrl : r < 255 := by omega
  clear hr
  have hd1 : decide ((r : Int) < 0) = false := decide_eq_false (by omega)
  have hd2 : decide ((r : Int) - 255 < 0) = true := decide_eq_true (by omega)
  rcases (show (0 ≤ n) ∨ (n < 0 ∧ r ≠ 0) ∨ (n < 0 ∧ r = 0) by omega) with h0 | ⟨h0, hz⟩ | ⟨h0, hz⟩
  · go_enter Try.func78, Try.ntmps78
    go_wp2
    try rw [hr2]
    try rw [hd1]
    go_loop [4, 5] (fun p i => ∃ K : Nat, K ≤ r ∧ i = .int .i64 K ∧ p = .int .u8 (F.powN 2 K)) (fun _ y => r - (intOf y).toNat)
    case atStart => exact ⟨0, by omega, rfl, rfl⟩
    case round =>
      obtain ⟨K, hK, rfl, rfl⟩ := hrel
      have hp := F.powN_lt 2 K (by omega)
      by_cases hlt : K < r
      · go_wp2_with (go_at_call 60; refine (rmul_nat _ 2 hp (by omega) _).mono ?_; rintro e w' ⟨rfl, rfl⟩)
        go_round
        case rel => exact ⟨K + 1, by omega, by go_num, rfl⟩
        case measure => simp [intOf]; omega
      · obtain rfl : K = r := by omega
        go_wp2
        go_ret
        exact ⟨ret_u8 (by rw [F.expB_nat]), rfl⟩
  · have ht := F.tmod_neg n r hr2 h0 (by omega)
    clear hr2
    go_enter Try.func78, Try.ntmps78
    go_wp2
    try rw [hr2]
    try rw [hd1]
    go_loop [4, 5] (fun p i => ∃ K : Nat, K ≤ r ∧ i = .int .i64 K ∧ p = .int .u8 (F.powN 2 K)) (fun _ y => r - (intOf y).toNat)
    case atStart => exact ⟨0, by omega, rfl, rfl⟩
    case round =>
      obtain ⟨K, hK, rfl, rfl⟩ := hrel
      have hp := F.powN_lt 2 K (by omega)
      by_cases hlt : K < r
      · go_wp2_with (go_at_call 60; refine (rmul_nat _ 2 hp (by omega) _).mono ?_; rintro e w' ⟨rfl, rfl⟩)
        go_round
        case rel => exact ⟨K + 1, by omega, by go_num, rfl⟩
        case measure => simp [intOf]; omega
      · obtain rfl : K = r := by omega
        go_wp2
        go_ret
        exact ⟨ret_u8 (by rw [F.expB_nat]), rfl⟩
  · subst hz
    have ht := F.tmod_nil n hr2 h0
    clear hr2
    go_enter Try.func78, Try.ntmps78
    go_wp2
    refine wp_loop_rounds 1 ?_
    rw [rounds_succ]
    go_wp2
    go_ret
    exact ⟨ret_u8 (by decide +kernel), rfl⟩

end Go.Proofs.Ytamkahjdedomlaa
namespace Go.Proofs.Ytamkahjdedomlaa
open Go.RowKit
set_option linter.unusedVariables false

theorem u8_bit (b k : Nat) (hb : b < 256) : bits .and .u8 ((b : Int) / 2 ^ k) 1 = if b.testBit k then 1 else 0 := by
  have e : ((b : Int) / 2 ^ k) = ((b / 2 ^ k : Nat) : Int) := by
    rw [Int.natCast_ediv]; simp
  have hlt : b / 2 ^ k < 256 := Nat.lt_of_le_of_lt (Nat.div_le_self _ _) hb
  rw [e, F.and_one _ hlt, Nat.testBit_eq_decide_div_mod_eq]
  by_cases h : b / 2 ^ k % 2 = 1
  · rw [h]; rfl
  · rw [show b / 2 ^ k % 2 = 0 by omega]; rfl

set_option maxRecDepth 100000 in
set_option maxHeartbeats 400000 in
theorem times_nat (a b : Nat) (ha : a < 256) (hb : b < 256) (w : World) : Calls Try.prog 77 #[.int .u8 a, .int .u8 b] w fun e w' => e = .returned (.int .u8 (F.mulN 8 a b)) ∧ w = w' := by
  go_enter Try.func77, Try.ntmps77
  go_wp2
  go_loop [6, 7] (fun p k => ∃ K : Nat, K ≤ 8 ∧ k = .int .i64 K ∧ p = .int .i64 (F.polyTo a b K)) (fun _ y => 8 - (intOf y).toNat)
  case atStart => exact ⟨0, by omega, rfl, rfl⟩
  case round =>
    obtain ⟨K, hK, rfl, rfl⟩ := hrel
    have hP := F.polyTo_lt a b K ha hK
    obtain ⟨P, hPe⟩ : ∃ P, F.polyTo a b K = P := ⟨_, rfl⟩
    rw [hPe] at hP ⊢
    have HP := Lib.hid hPe
    clear hPe
    by_cases hlt : K < 8
    · have hsh := F.shift_lt a K ha hlt
      have e1 : ((a : Int) * 2 ^ K) = ((a <<< K : Nat) : Int) := by rw [Nat.shiftLeft_eq]; simp
      have h2 : (a : Int) * 2 ^ K ≤ 32768 := by rw [e1]; omega
      have h3 : 0 ≤ (a : Int) * 2 ^ K := by rw [e1]; exact Int.natCast_nonneg _
      have hx : bits .xor .i64 (P : Int) ((a : Int) * 2 ^ K) = ((P ^^^ (a <<< K) : Nat) : Int) := by rw [e1]; exact i64_xor_nat _ _ (by omega) (by omega)
      have hb1 := u8_bit b K hb
      clear e1 hsh
      by_cases ht : b.testBit K = true
      · rw [if_pos ht] at hb1
        have HT := Lib.hid ht
        clear ht
        go_wp2
        go_round
        case rel => exact ⟨K + 1, by omega, by go_num, by simp only [F.polyTo]; rw [if_pos HT.out, HP.out]⟩
        case measure => simp [intOf]; omega
      · rw [if_neg ht] at hb1
        have HT := Lib.hid ht
        clear ht
        go_wp2
        go_round
        case rel => exact ⟨K + 1, by omega, by go_num, by simp only [F.polyTo]; rw [if_neg HT.out, HP.out, Nat.xor_zero]⟩
        case measure => simp [intOf]; omega
    · obtain rfl : K = 8 := by omega
      go_wp2
      go_loop [6, 8] (fun p k => ∃ J : Nat, J ≤ 7 ∧ k = .int .i64 (14 - (J : Int)) ∧ p = .int .i64 (F.redTo P J)) (fun _ y => (intOf y).toNat)
      case atStart => exact ⟨0, by omega, rfl, rfl⟩
      case round =>
        obtain ⟨J, hJ, rfl, rfl⟩ := hrel
        have hR := F.redTo_lt P J hP
        obtain ⟨R, hRe⟩ : ∃ R, F.redTo P J = R := ⟨_, rfl⟩
        rw [hRe] at hR ⊢
        have HR := Lib.hid hRe
        clear hRe
        by_cases hlt : J < 7
        · have hsh := F.shift285_lt (14 - J) (by omega)
          have e1 : ((285 : Int) * (2 : Int) ^ (14 - J - 8)) = ((285 <<< (14 - J - 8) : Nat) : Int) := by rw [Nat.shiftLeft_eq]; simp
          have h2 : (285 : Int) * (2 : Int) ^ (14 - J - 8) ≤ 65536 := by rw [e1]; omega
          have h3 : 0 ≤ (285 : Int) * (2 : Int) ^ (14 - J - 8) := by rw [e1]; exact Int.natCast_nonneg _
          have hx : bits .xor .i64 (R : Int) ((285 : Int) * (2 : Int) ^ (14 - J - 8)) = ((R ^^^ (285 <<< (14 - J - 8)) : Nat) : Int) := by rw [e1]; exact i64_xor_nat _ _ (by omega) (by omega)
          have hb1 := i64_bit R (14 - J) (by omega)
          clear e1 hsh
          by_cases ht : R.testBit (14 - J) = true
          · rw [if_pos ht] at hb1
            have HT := Lib.hid ht
            clear ht
            go_wp2
            go_round
            case rel => exact ⟨J + 1, by omega, by go_num, by simp only [F.redTo, F.redAt]; rw [HR.out, if_pos HT.out]⟩
            case measure => simp [intOf]; omega
          · rw [if_neg ht] at hb1
            have HT := Lib.hid ht
            clear ht
            go_wp2
            go_round
            case rel => exact ⟨J + 1, by omega, by go_num, by simp only [F.redTo, F.redAt]; rw [HR.out, if_neg HT.out]⟩
            case measure => simp [intOf]; omega
        · obtain rfl : J = 7 := by omega
          go_wp2
          go_ret
          have h1 : R = F.mulN 8 a b := by rw [← HR.out, ← HP.out]; exact F.poly_mul a b ha hb
          have h2 := F.mulN_lt 8 a b ha
          exact ⟨ret_u8 (by rw [h1]; omega), rfl⟩
theorem times_any (a b : UInt8) (w : World) : Calls Try.prog 77 #[.int .u8 a.toNat, .int .u8 b.toNat] w fun e w' => e = .returned (.int .u8 (F.mulB a b).toNat) ∧ w = w' := by
  have h := times_nat a.toNat b.toNat a.toNat_lt b.toNat_lt w
  have e : (F.mulB a b).toNat = F.mulN 8 a.toNat b.toNat := UInt8.toNat_ofNat_of_lt' (F.mulN_lt 8 _ _ a.toNat_lt)
  rw [e]; exact h

theorem rpow_any (n : Nat) (hn : n < 1000000) (w : World) : Calls Try.prog 58 #[.int .i64 n] w fun e w' => e = .returned (.int .u8 (F.expB n).toNat) ∧ w = w' := by
  go_enter Try.func58, Try.ntmps58
  go_wp2
  go_loop [3, 4] (fun y i => ∃ k : Nat, k ≤ n ∧ i = .int .i64 k ∧ y = .int .u8 (F.expB k).toNat) (fun _ i => n - (intOf i).toNat)
  case atStart => exact ⟨0, Nat.zero_le _, rfl, rfl⟩
  case round =>
    obtain ⟨k, hk, rfl, rfl⟩ := hrel
    by_cases hlt : k < n
    · have hst : Hid (F.expB (k + 1) = F.mulB (F.expB k) 2) := rfl
      obtain ⟨y, hy⟩ : ∃ y, F.expB k = y := ⟨_, rfl⟩
      rw [hy] at hst ⊢
      clear hy
      go_wp2_with fail
      refine (times_any y 2 _).mono ?_
      rintro e w' ⟨rfl, rfl⟩
      go_wp2
      go_round
      case rel => exact ⟨k + 1, by omega, by go_num, by rw [hst.out]⟩
      case measure => simp [intOf] <;> omega
    · obtain rfl : k = n := by omega
      go_wp2
      go_ret
      exact ⟨rfl, rfl⟩

theorem str_at {s : ByteArray} {l : List UInt8} (hl : s.data.toList = l) : (l.length = s.size) ∧ ∀ k (h : k < s.size), s[k] = l[k]?.getD 0 := by
  refine ⟨by rw [← hl]; rfl, fun k h => ?_⟩
  rw [← hl, Array.getElem?_toList, Array.getElem?_eq_getElem (by exact h)]; rfl

theorem xor_r (a b r : UInt8) (h : a ^^^ b = r) : bits .xor .u8 (a.toNat : Int) (b.toNat : Int) = (r.toNat : Int) := by rw [u8_xor_nat _ _ a.toNat_lt b.toNat_lt, ← h, UInt8.toNat_xor]

set_option maxRecDepth 100000 in
theorem rvalue_any (s : ByteArray) (x : UInt8) (hs : s.size ≤ 100000) (w : World) : Calls Try.prog 57 #[.string s, .int .u8 x.toNat] w fun e w' => e = .returned (.int .u8 (horn s.data.toList x).toNat) ∧ ∃ n, w' = w.drewN n := by
  obtain ⟨l, hl⟩ : ∃ l, s.data.toList = l := ⟨_, rfl⟩
  obtain ⟨hln, hat⟩ := str_at hl
  rw [hl]
  have HSL := Lib.hid hln
  have HAT := Lib.hid hat
  clear hl hln hat
  go_enter Try.func57, Try.ntmps57
  go_wp2
  go_loopw [5, 6] (fun y i wr => ∃ k : Nat, k ≤ s.size ∧ i = .int .i64 k ∧ y = .int .u8 (hornTo l x k).toNat ∧ ∃ q, wr = w.drewN q) (fun _ i _ => s.size - (intOf i).toNat)
  case atStart => exact ⟨0, Nat.zero_le _, rfl, rfl, 0, rfl⟩
  case round =>
    obtain ⟨k, hk, rfl, rfl, q, hq⟩ := hrel
    have HQ := Lib.hid hq
    clear hq
    by_cases hlt : k < s.size
    · have hsk := HAT.out k hlt
      have hst : Hid (hornTo l x (k + 1) = F.mulB (hornTo l x k) x ^^^ (l[k]?.getD 0)) := rfl
      obtain ⟨y, hy⟩ : ∃ y, l[k]?.getD 0 = y := ⟨_, rfl⟩
      obtain ⟨z, hz⟩ : ∃ z, hornTo l x k = z := ⟨_, rfl⟩
      rw [hy] at hsk hst
      rw [hz] at hst ⊢
      obtain ⟨r, hr⟩ : ∃ r, F.mulB z x ^^^ y = r := ⟨_, rfl⟩
      have hx := xor_r _ _ _ hr
      have HR := Lib.hid hr
      have e5 : (k : Int) < (s.size : Int) := by omega
      clear hy hz hr
      go_wp2_with fail
      go_quiet ((go_at_call 77; exact quiet_same (times_any z x _)))
      go_wp2
      go_roundw
      case rel => exact ⟨k + 1, by omega, by go_num, by rw [hst.out, HR.out], q + nq, by rw [HQ.out, World.drewN_drewN]⟩
      case measure => simp [intOf] <;> omega
    · obtain rfl : k = s.size := by omega
      go_wp2
      go_ret
      exact ⟨ret_u8 (by unfold horn; rw [HSL.out]), q, HQ.out⟩
theorem rsyn_range (s : ByteArray) (p : Int) (h : p < 1 ∨ 64 < p) (w : World) : Calls Try.prog 36 #[.string s, .int .i64 p] w fun e w' => e = .returned (.tuple #[.slice none 0 0, .int .i64 2]) ∧ w = w' := by
  by_cases h1 : p < 1
  · go_enter Try.func36, Try.ntmps36
    go_wp2
    go_ret2
    exact ⟨rfl, rfl⟩
  · have h2 : 64 < p := by omega
    go_enter Try.func36, Try.ntmps36
    go_wp2
    go_ret2
    exact ⟨rfl, rfl⟩
theorem rsyn_short (s : ByteArray) (p : Nat) (h1 : 1 ≤ p) (h2 : p ≤ 64) (h3 : s.size < p) (w : World) : Calls Try.prog 36 #[.string s, .int .i64 p] w fun e w' => e = .returned (.tuple #[.slice none 0 0, .int .i64 4]) ∧ w = w' := by
  go_enter Try.func36, Try.ntmps36
  go_wp2
  go_ret2
  exact ⟨rfl, rfl⟩
theorem rsyn_long (s : ByteArray) (p : Nat) (h1 : 1 ≤ p) (h2 : p ≤ 64) (h3 : 255 < s.size) (w : World) : Calls Try.prog 36 #[.string s, .int .i64 p] w fun e w' => e = .returned (.tuple #[.slice none 0 0, .int .i64 6]) ∧ w = w' := by
  go_enter Try.func36, Try.ntmps36
  go_wp2
  go_ret2
  exact ⟨rfl, rfl⟩

set_option maxHeartbeats 2000000 in
theorem rsyn_ok (s : ByteArray) (p : Nat) (h1 : 1 ≤ p) (h2 : p ≤ 64) (h3 : p ≤ s.size) (h4 : s.size ≤ 255) (w : World) : Calls Try.prog 36 #[.string s, .int .i64 p] w
    fun e w' => ∃ v, e = .returned (.tuple #[v, .int .i64 0]) ∧ Sl w' w.heap.size v (synB s.data.toList p) ∧ Below w.heap.size w w' := by
  obtain ⟨l, hl⟩ : ∃ l, s.data.toList = l := ⟨_, rfl⟩
  have hval := fun (x : UInt8) (w : World) => rvalue_any s x (by omega) w
  rw [hl] at hval ⊢
  have hX : ∀ k, k < p → (synB l p).take (k + 1) = (synB l p).take k ++ [horn l (F.expB k)] := by
    intro k hk
    rw [List.take_add_one]
    congr 1
    have := synB_at l p k hk
    rw [List.getElem?_eq_getElem (by rw [synB_len]; exact hk)] at this ⊢
    rw [← this]; rfl
  have hXn : (synB l p).take p = synB l p := List.take_of_length_le (by rw [synB_len]; exact Nat.le_refl _)
  have hXl : ∀ k, k ≤ p → ((synB l p).take k).length = k := by intro k hk; rw [List.length_take, synB_len]; omega
  obtain ⟨X, hXX⟩ : ∃ X, synB l p = X := ⟨_, rfl⟩
  rw [hXX] at hX hXn hXl ⊢
  have HX := Lib.hid hX
  have HXN := Lib.hid hXn
  have HXL := Lib.hid hXl
  have HV := Lib.hid hval
  clear hl hX hXn hXl hXX hval
  have d1 : decide (s.size < p) = false := decide_eq_false (by omega)
  have d2 : decide (255 < s.size) = false := decide_eq_false (by omega)
  have d3 : decide ((p : Int) < 1) = false := decide_eq_false (by omega)
  have d4 : decide ((64 : Int) < p) = false := decide_eq_false (by omega)
  go_enter Try.func36, Try.ntmps36
  go_wp2
  go_loopw [6, 7] (fun y i wr => ∃ k : Nat, k ≤ p ∧ i = .int .i64 k ∧ wr.ownsRow w.heap.size 5 1 y k ((X.take k).map u8v) ∧ Below w.heap.size w wr) (fun _ i _ => p - (intOf i).toNat)
  case atStart =>
    refine ⟨0, Nat.zero_le _, rfl, ?_, (Below.refl _ w).alloc (Nat.le_refl _) _⟩
    exact World.ownsRow_lit w #[] 0 (Nat.le_refl _) (by unfold maxLen; omega) rfl
  case round =>
    obtain ⟨k, hk, rfl, hO, hB⟩ := hrel
    by_cases hlt : k < p
    · have hst := HX.out k hlt
      obtain ⟨r, hr⟩ : ∃ r, horn l (F.expB k) = r := ⟨_, rfl⟩
      rw [hr] at hst
      have HR := Lib.hid hr
      have HST := Lib.hid hst
      have HO := Lib.hid hO
      have HB := Lib.hid hB
      have hbz := hB.size
      clear hr hst hO hB
      go_wp2_with fail
      refine (rpow_any k (by omega) _).mono ?_
      rintro e w' ⟨rfl, rfl⟩
      go_wp2_with fail
      refine (HV.out (F.expB k) _).mono ?_
      rintro e w' ⟨rfl, m, rfl⟩
      rw [HR.out]
      go_wp2_with (at_builtin; refine wpList_append_bytes rfl _ _ 33 5 rfl Try.underlying33 Try.infoU8 w.heap.size u6 (X.take k) (by rfl) ?h1 ?h2 wr.heap.size 1 1 [r] (by rfl) rfl ?h3 ?h4 ?_)
      case h1 =>
        have hO2 : (wr.drewN m).ownsRow w.heap.size 5 1 u6 k ((X.take k).map u8v) := HO.out
        rw [HXL.out k hk]; exact hO2.alloc _
      case h2 => simp; omega
      case h3 => exact cells_one (wr.drewN m) r _
      case h4 => rw [HXL.out k hk]; simp; omega
      intro v' w2 hown hgr
      have hmin : min k X.length = k := by have := HXL.out k hk; rwa [List.length_take] at this
      rw [hmin] at hown
      have hown : w2.ownsRow w.heap.size 5 1 v' (k + 1) ((X.take (k + 1)).map u8v) := by
        rw [HST.out, List.map_append, List.map_take]; exact hown
      have hb2 : Below w.heap.size w w2 := ((below_drewN HB.out m).alloc hbz _).trans ((Below.refl w.heap.size _).grown hgr (by simp; omega) (fun j hj => ((HO.out).lt j hj).1))
      clear hgr
      go_wp2
      go_roundw
      case rel => exact ⟨k + 1, by omega, by go_num, hown, hb2⟩
      case measure => simp [intOf] <;> omega
    · obtain rfl : k = p := by omega
      have hsl : Sl wr w.heap.size u6 X := by
        have h0 := HXL.out k (Nat.le_refl _)
        rw [HXN.out] at hO h0
        exact sl_of_owns (e := 5) (by rw [h0]; exact hO)
      have HB := Lib.hid hB
      have HS := Lib.hid hsl
      clear hO hB hsl
      go_wp2
      go_ret2
      exact ⟨_, rfl, HS.out, HB.out⟩
end Go.Proofs.Ytamkahjdedomlaa
