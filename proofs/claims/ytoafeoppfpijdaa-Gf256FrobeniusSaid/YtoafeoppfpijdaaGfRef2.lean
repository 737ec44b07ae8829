/-
  The walks of the reference of layer 5: Inv, Div, Exp, Log, Pow.
-/
import Derived.Test.YtoafeoppfpijdaaGfRef
namespace Go.Proofs.Ytoafeoppfpijdaa
open Go.RowKit
set_option linter.unusedVariables false

namespace F
def invB (a : UInt8) : UInt8 := (inv (mk a)).byte
def divB (a b : UInt8) : UInt8 := mulB a (invB b)
def powB (a : UInt8) (n : Nat) : UInt8 := (pow (mk a) n).byte
def expB (n : Nat) : UInt8 := (exp n).byte
theorem mulB_nat (a b : UInt8) : (mulB a b).toNat = mN a.toNat b.toNat := UInt8.toNat_ofNat_of_lt' (mulN_lt 8 _ _ a.toNat_lt)
theorem invB_hit (a : UInt8) (x : Nat) (hx : x < 256) (h : mN a.toNat x = 1) : ((invB a).toNat : Int) = x := by
  have : mk (UInt8.ofNat x) = inv (mk a) := inv_unique (ext (by
    rw [nat_mul]; show mN a.toNat (UInt8.ofNat x).toNat = 1
    rw [UInt8.toNat_ofNat_of_lt' hx]; exact h))
  have h2 : (invB a).toNat = x := by
    show (inv (mk a)).byte.toNat = x
    rw [← this]; exact UInt8.toNat_ofNat_of_lt' hx
  rw [h2]
theorem hit_ne (a : UInt8) (x : Nat) (h : mN a.toNat x = 1) : a ≠ 0 := by
  intro e; subst e
  have h0 : mN (0 : UInt8).toNat x = 0 := by
    show mN 0 x = 0
    have := mN_left 0 0 x (by omega) (by omega)
    rw [Nat.xor_self, Nat.xor_self] at this; exact this
  rw [h0] at h; exact absurd h (by omega)
theorem no_hit (a : UInt8) (h : ∀ y, 1 ≤ y → y < 256 → mN a.toNat y ≠ 1) : a = 0 := by
  by_cases e : a = 0
  · exact e
  · exfalso
    have h1 : mk a * inv (mk a) = 1 := mul_inv e
    have h2 : mN a.toNat (inv (mk a)).byte.toNat = 1 := by
      have := congrArg (fun x : F => x.byte.toNat) h1
      simp only [nat_mul] at this
      exact this
    refine h _ ?_ (byte_lt _) h2
    by_cases z : (inv (mk a)).byte.toNat = 0
    · rw [z, mN_zero] at h2; exact absurd h2 (by omega)
    · omega
end F

set_option maxRecDepth 100000 in
set_option maxHeartbeats 400000 in
theorem rinv_any (a : UInt8) (w : World) : Calls Try.prog 18 #[.int .u8 a.toNat] w fun e w' => e = .returned (.tuple #[.int .u8 (F.invB a).toNat, .bool (decide (a ≠ 0))]) ∧ w = w' := by
  have hat := a.toNat_lt
  go_enter Try.func18, Try.ntmps18
  go_wp2
  go_loop [4] (fun x => ∃ X : Nat, 1 ≤ X ∧ X ≤ 256 ∧ x = .int .i64 X ∧ Hid (∀ y, 1 ≤ y → y < X → F.mN a.toNat y ≠ 1)) (fun y => 256 - (intOf y).toNat)
  case atStart => exact ⟨1, by omega, by omega, rfl, fun y h1 h2 => by omega⟩
  case round =>
    obtain ⟨X, hX1, hX2, rfl, hno⟩ := hrel
    by_cases hlt : X < 256
    · obtain ⟨m, hm⟩ : ∃ m, F.mulN 8 a.toNat X = m := ⟨_, rfl⟩
      have HM := Lib.hid hm
      have hc : ∀ w, Calls Try.prog 21 #[.int .u8 a.toNat, .int .u8 X] w fun e w' => e = .returned (.int .u8 m) ∧ w = w' := by
        intro w; rw [← hm]; exact rmul_nat a.toNat X hat hlt w
      have HCC := Lib.hid hc
      clear hm hc
      by_cases h1 : m = 1
      · subst h1
        go_wp2_with (go_at_call 21; refine (HCC.out _).mono ?_; rintro e w' ⟨rfl, rfl⟩)
        go_ret2
        exact ⟨ret_ub (F.invB_hit a X hlt HM.out).symm (decide_eq_true (F.hit_ne a X HM.out)).symm, rfl⟩
      · have hne : ((m : Int) == 1) = false := beq_eq_false_iff_ne.2 (by omega)
        go_wp2_with (go_at_call 21; refine (HCC.out _).mono ?_; rintro e w' ⟨rfl, rfl⟩)
        go_round
        case rel =>
          refine ⟨X + 1, by omega, by omega, by go_num, fun y h2 h3 => ?_⟩
          by_cases e : y = X
          · subst e; intro hh; exact h1 (HM.out.symm.trans hh)
          · exact hno.out y h2 (by omega)
        case measure => simp [intOf]; omega
    · obtain rfl : X = 256 := by omega
      go_wp2
      go_ret2
      have h0 := F.no_hit a hno.out
      subst h0
      exact ⟨ret_ub (by decide +kernel) (by decide), rfl⟩

theorem rinv_nz (a : UInt8) (h : a ≠ 0) (w : World) : Calls Try.prog 18 #[.int .u8 a.toNat] w fun e w' => e = .returned (.tuple #[.int .u8 (F.invB a).toNat, .bool true]) ∧ w = w' := by
  have := rinv_any a w
  rwa [decide_eq_true h] at this
theorem rinv_z (w : World) : Calls Try.prog 18 #[.int .u8 0] w fun e w' => e = .returned (.tuple #[.int .u8 0, .bool false]) ∧ w = w' := by
  have := rinv_any 0 w
  have h2 : F.invB 0 = 0 := by decide +kernel
  rw [h2] at this
  exact this
theorem rdiv_nz (a b : UInt8) (h : b ≠ 0) (w : World) : Calls Try.prog 19 #[.int .u8 a.toNat, .int .u8 b.toNat] w fun e w' => e = .returned (.tuple #[.int .u8 (F.divB a b).toNat, .bool true]) ∧ w = w' := by
  go_enter Try.func19, Try.ntmps19
  go_wp2_with (first
    | (go_at_call 18; refine (rinv_nz b h _).mono ?_; rintro e w' ⟨rfl, rfl⟩)
    | (go_at_call 21; refine (rmul_any _ _ _).mono ?_; rintro e w' ⟨rfl, rfl⟩))
  go_ret2
  exact ⟨rfl, rfl⟩
theorem rdiv_z (a : UInt8) (w : World) : Calls Try.prog 19 #[.int .u8 a.toNat, .int .u8 0] w fun e w' => e = .returned (.tuple #[.int .u8 0, .bool false]) ∧ w = w' := by
  go_enter Try.func19, Try.ntmps19
  go_wp2_with (go_at_call 18; refine (rinv_z _).mono ?_; rintro e w' ⟨rfl, rfl⟩)
  go_ret2
  exact ⟨rfl, rfl⟩

/-- The exponent from 0 to 254 that is equivalent to n. -/
def F.red (n : Int) : Nat := (n % 255).toNat
theorem F.powN_succ (a k : Nat) : F.powN a (k + 1) = F.mN (F.powN a k) a := rfl
theorem F.powN_lt (a k : Nat) (h : a < 256) : F.powN a k < 256 := by
  induction k with
  | zero => show 1 < 256; omega
  | succ k ih => exact F.mN_lt ih
theorem F.expB_nat (k : Nat) : (F.expB k).toNat = F.powN 2 k := F.powN_eq F.gen k
theorem F.powB_nat (a : UInt8) (k : Nat) : (F.powB a k).toNat = F.powN a.toNat k := F.powN_eq (F.mk a) k

theorem F.tmod_neg (n r : Int) (h : n % 255 = r) (h0 : n < 0) (h1 : r ≠ 0) : n.tmod 255 = r - 255 := by
  rw [Int.tmod_eq_emod, if_neg (by intro hc; rcases hc with hc | hc <;> omega)]; simp; omega
theorem F.tmod_nil (n : Int) (h : n % 255 = 0) (h0 : n < 0)  : n.tmod 255 = 0 := by
  rw [Int.tmod_eq_emod, if_pos (by right; omega)]; simp; omega

set_option maxRecDepth 100000 in
set_option maxHeartbeats 1000000 in
theorem rexp_any (n : Int) (h1 : -9223372036854775808 ≤ n) (h2 : n ≤ 9223372036854775807) (w : World) : Calls Try.prog 25 #[.int .i64 n] w fun e w' => e = .returned (.int .u8 (F.expB (F.red n)).toNat) ∧ w = w' := by
  obtain ⟨r, hr⟩ : ∃ r, F.red n = r := ⟨_, rfl⟩
  rw [hr]
  have hr2 : (n % 255) = (r : Int) := by unfold F.red at hr; omega
  have hrl : r < 255 := by omega
  clear hr
  have hd1 : decide ((r : Int) < 0) = false := decide_eq_false (by omega)
  have hd2 : decide ((r : Int) - 255 < 0) = true := decide_eq_true (by omega)
  rcases (show (0 ≤ n) ∨ (n < 0 ∧ r ≠ 0) ∨ (n < 0 ∧ r = 0) by omega) with h0 | ⟨h0, hz⟩ | ⟨h0, hz⟩
  · go_enter Try.func25, Try.ntmps25
    go_wp2
    try rw [hr2]
    try rw [hd1]
    go_loop [4, 5] (fun p i => ∃ K : Nat, K ≤ r ∧ i = .int .i64 K ∧ p = .int .u8 (F.powN 2 K)) (fun _ y => r - (intOf y).toNat)
    case atStart => exact ⟨0, by omega, rfl, rfl⟩
    case round =>
      obtain ⟨K, hK, rfl, rfl⟩ := hrel
      have hp := F.powN_lt 2 K (by omega)
      by_cases hlt : K < r
      · go_wp2_with (go_at_call 21; refine (rmul_nat _ 2 hp (by omega) _).mono ?_; rintro e w' ⟨rfl, rfl⟩)
        go_round
        case rel => exact ⟨K + 1, by omega, by go_num, rfl⟩
        case measure => simp [intOf]; omega
      · obtain rfl : K = r := by omega
        go_wp2
        go_ret
        exact ⟨ret_u8 (by rw [F.expB_nat]), rfl⟩
  · have ht := F.tmod_neg n r hr2 h0 (by omega)
    clear hr2
    go_enter Try.func25, Try.ntmps25
    go_wp2
    try rw [hr2]
    try rw [hd1]
    go_loop [4, 5] (fun p i => ∃ K : Nat, K ≤ r ∧ i = .int .i64 K ∧ p = .int .u8 (F.powN 2 K)) (fun _ y => r - (intOf y).toNat)
    case atStart => exact ⟨0, by omega, rfl, rfl⟩
    case round =>
      obtain ⟨K, hK, rfl, rfl⟩ := hrel
      have hp := F.powN_lt 2 K (by omega)
      by_cases hlt : K < r
      · go_wp2_with (go_at_call 21; refine (rmul_nat _ 2 hp (by omega) _).mono ?_; rintro e w' ⟨rfl, rfl⟩)
        go_round
        case rel => exact ⟨K + 1, by omega, by go_num, rfl⟩
        case measure => simp [intOf]; omega
      · obtain rfl : K = r := by omega
        go_wp2
        go_ret
        exact ⟨ret_u8 (by rw [F.expB_nat]), rfl⟩
  · subst hz
    have ht := F.tmod_nil n hr2 h0
    clear hr2
    go_enter Try.func25, Try.ntmps25
    go_wp2
    refine wp_loop_rounds 1 ?_
    rw [rounds_succ]
    go_wp2
    go_ret
    exact ⟨ret_u8 (by decide +kernel), rfl⟩

set_option maxRecDepth 100000 in
set_option maxHeartbeats 1000000 in
theorem rpow_nz (a : UInt8) (ha : a ≠ 0) (n : Int) (h1 : -9223372036854775808 ≤ n) (h2 : n ≤ 9223372036854775807) (w : World) :
    Calls Try.prog 24 #[.int .u8 a.toNat, .int .i64 n] w fun e w' => e = .returned (.tuple #[.int .u8 (F.powB a (F.red n)).toNat, .bool true]) ∧ w = w' := by
  obtain ⟨r, hr⟩ : ∃ r, F.red n = r := ⟨_, rfl⟩
  rw [hr, F.powB_nat]
  have hr2 : (n % 255) = (r : Int) := by unfold F.red at hr; omega
  have hrl : r < 255 := by omega
  clear hr
  have hat : a.toNat < 256 := a.toNat_lt
  have haz : ((a.toNat : Int) == 0) = false := beq_eq_false_iff_ne.2 (fun e => ha (UInt8.toNat_inj.1 (by show a.toNat = 0; omega)))
  obtain ⟨A, hA⟩ : ∃ A, a.toNat = A := ⟨_, rfl⟩
  rw [hA] at hat haz ⊢
  clear hA
  have hd1 : decide ((r : Int) < 0) = false := decide_eq_false (by omega)
  have hd2 : decide ((r : Int) - 255 < 0) = true := decide_eq_true (by omega)
  rcases (show (0 ≤ n) ∨ (n < 0 ∧ r ≠ 0) ∨ (n < 0 ∧ r = 0) by omega) with h0 | ⟨h0, hz⟩ | ⟨h0, hz⟩
  · go_enter Try.func24, Try.ntmps24
    go_wp2
    try rw [hr2]
    try rw [hd1]
    go_loop [7, 8] (fun p i => ∃ K : Nat, K ≤ r ∧ i = .int .i64 K ∧ p = .int .u8 (F.powN A K)) (fun _ y => r - (intOf y).toNat)
    case atStart => exact ⟨0, by omega, rfl, rfl⟩
    case round =>
      obtain ⟨K, hK, rfl, rfl⟩ := hrel
      have hp := F.powN_lt A K (by omega)
      by_cases hlt : K < r
      · go_wp2_with (go_at_call 21; refine (rmul_nat _ A hp (by omega) _).mono ?_; rintro e w' ⟨rfl, rfl⟩)
        go_round
        case rel => exact ⟨K + 1, by omega, by go_num, rfl⟩
        case measure => simp [intOf]; omega
      · obtain rfl : K = r := by omega
        go_wp2
        go_ret2
        exact ⟨rfl, rfl⟩
  · have ht := F.tmod_neg n r hr2 h0 (by omega)
    clear hr2
    go_enter Try.func24, Try.ntmps24
    go_wp2
    try rw [ht]
    try rw [hd2]
    go_loop [7, 8] (fun p i => ∃ K : Nat, K ≤ r ∧ i = .int .i64 K ∧ p = .int .u8 (F.powN A K)) (fun _ y => r - (intOf y).toNat)
    case atStart => exact ⟨0, by omega, rfl, rfl⟩
    case round =>
      obtain ⟨K, hK, rfl, rfl⟩ := hrel
      have hp := F.powN_lt A K (by omega)
      by_cases hlt : K < r
      · go_wp2_with (go_at_call 21; refine (rmul_nat _ A hp (by omega) _).mono ?_; rintro e w' ⟨rfl, rfl⟩)
        go_round
        case rel => exact ⟨K + 1, by omega, by go_num, rfl⟩
        case measure => simp [intOf]; omega
      · obtain rfl : K = r := by omega
        go_wp2
        go_ret2
        exact ⟨rfl, rfl⟩
  · subst hz
    have ht := F.tmod_nil n hr2 h0
    clear hr2
    go_enter Try.func24, Try.ntmps24
    go_wp2
    refine wp_loop_rounds 1 ?_
    rw [rounds_succ]
    go_wp2
    go_ret2
    exact ⟨rfl, rfl⟩
theorem rpow_z (n : Int) (w : World) :
    Calls Try.prog 24 #[.int .u8 0, .int .i64 n] w fun e w' => e = .returned (.tuple #[.int .u8 (if n = 0 then 1 else 0), .bool (decide (0 ≤ n))]) ∧ w = w' := by
  by_cases h : n = 0
  · subst h
    go_enter Try.func24, Try.ntmps24
    go_wp2
    go_ret2
    exact ⟨rfl, rfl⟩
  · have hn : (n == 0) = false := beq_eq_false_iff_ne.2 h
    have HH := Lib.hid h
    clear h
    go_enter Try.func24, Try.ntmps24
    go_wp2
    go_ret2
    have := HH.out
    exact ⟨ret_ub (by first | rfl | rw [if_neg this]) (by rw [decide_eq_decide]; omega), rfl⟩
end Go.Proofs.Ytoafeoppfpijdaa
