/-
  The walks of gf256.Add, double, Mul, and of the reference's Add and Mul.
-/
import Derived.Test.YtamkahjdedomlaaGf
import Derived.Test.YtamkahjdedomlaaRet
import Derived.Test.YtamkahjdedomlaaRows
import Derived.WalkSpells
import Derived.WalkLawsBesides
import Derived.BigQuiet
namespace Go.Proofs.Ytamkahjdedomlaa
open Go.RowKit
set_option linter.unusedVariables false

theorem add_any (a b : UInt8) (w : World) : Calls Try.prog 33 #[.int .u8 a.toNat, .int .u8 b.toNat] w fun e w' => e = .returned (.int .u8 (a ^^^ b).toNat) ∧ w = w' := by
  have hx : bits .xor .u8 (a.toNat : Int) (b.toNat : Int) = ((a ^^^ b).toNat : Int) := by rw [u8_xor_nat _ _ a.toNat_lt b.toNat_lt, UInt8.toNat_xor]
  have ha := a.toNat_lt
  have hb := b.toNat_lt
  go_enter Try.func33, Try.ntmps33
  go_wp2
  go_ret
  exact ⟨rfl, rfl⟩

theorem F.dbl_hi (a : Nat) (h : a < 256) (h' : 128 ≤ a) : F.dblN a = (a * 2 % 256) ^^^ 29 := by
  have := F.allB_spec 256 (fun a => Nat.ble a 127 || Nat.beq (F.dblN a) ((a * 2 % 256) ^^^ 29)) (by decide +kernel) a h
  rw [Bool.or_eq_true] at this
  rcases this with e | e
  · have := Nat.le_of_ble_eq_true e; omega
  · exact Nat.eq_of_beq_eq_true e
set_option maxRecDepth 100000 in
theorem double_any (a : Nat) (ha : a < 256) (w : World) : Calls Try.prog 54 #[.int .u8 a] w fun e w' => e = .returned (.int .u8 (F.dblN a)) ∧ w = w' := by
  by_cases h : 128 ≤ a
  · have hx : bits .xor .u8 ((a : Int) * 2 % 256) 29 = (F.dblN a : Int) := by
      have := u8_xor_nat (a * 2 % 256) 29 (by omega) (by omega)
      rw [← F.dbl_hi a ha h] at this
      rw [← this]; congr 1
    have hx' := Lib.hid hx
    clear hx
    go_enter Try.func54, Try.ntmps54
    go_wp2
    go_ret
    exact ⟨ret_u8 hx'.out, rfl⟩
  · have hx : (a : Int) * 2 = (F.dblN a : Int) := by unfold F.dblN; rw [if_neg h]; omega
    have hx' := Lib.hid hx
    clear hx
    go_enter Try.func54, Try.ntmps54
    go_wp2
    go_ret
    exact ⟨ret_u8 hx'.out, rfl⟩

theorem F.mulN_step (f a b s m : Nat) (h : s ^^^ F.mulN (f + 1) a b = m) : (if b % 2 = 1 then s ^^^ a else s) ^^^ F.mulN f (F.dblN a) (b / 2) = m := by
  rw [← h]; simp only [F.mulN]
  by_cases e : b % 2 = 1
  · rw [if_pos e, if_pos e, Nat.xor_assoc]
  · rw [if_neg e, if_neg e, Nat.zero_xor]
theorem F.mulN_none (f a : Nat) : F.mulN f a 0 = 0 := by
  induction f generalizing a with
  | zero => rfl
  | succ f ih => simp only [F.mulN]; rw [if_neg (by omega), ih]; rfl

theorem F.and_one (B : Nat) (h : B < 256) : bits .and .u8 (B : Int) 1 = ((B % 2 : Nat) : Int) := by
  have := u8_and_nat B 1 h (by omega)
  rw [Nat.and_one_is_mod] at this
  exact this
set_option maxRecDepth 100000 in
set_option maxHeartbeats 400000 in
theorem mul_nat (a b : Nat) (ha : a < 256) (hb : b < 256) (w : World) : Calls Try.prog 32 #[.int .u8 a, .int .u8 b] w fun e w' => e = .returned (.int .u8 (F.mulN 8 a b)) ∧ w = w' := by
  go_enter Try.func32, Try.ntmps32
  go_wp2
  go_loop [0, 1, 5] (fun x y z => ∃ f A B S : Nat, A < 256 ∧ S < 256 ∧ B < 256 ∧ B < 2 ^ f ∧ x = .int .u8 A ∧ y = .int .u8 B ∧ z = .int .u8 S ∧ Hid (S ^^^ F.mulN f A B = F.mulN 8 a b)) (fun _ y _ => (intOf y).toNat)
  case atStart => exact ⟨8, a, b, 0, ha, by omega, hb, hb, rfl, rfl, rfl, Nat.zero_xor _⟩
  case round =>
    obtain ⟨f, A, B, S, hA, hS, hB, hf, rfl, rfl, rfl, hm⟩ := hrel
    by_cases h0 : 0 < B
    · cases f with
      | zero => exact absurd hf (by simp; omega)
      | succ f =>
        have hd := F.dbl_lt A hA
        have hst := F.mulN_step f A B S _ hm.out
        by_cases ho : B % 2 = 1
        · rw [if_pos ho] at hst
          have HST := Lib.hid hst
          have hx : bits .xor .u8 (S : Int) (A : Int) = ((S ^^^ A : Nat) : Int) := u8_xor_nat _ _ hS hA
          have hxl := F.xor_lt hS hA
          have hf2 : B / 2 < 2 ^ f := by rw [Nat.pow_succ] at hf; omega
          have hand : bits .and .u8 (B : Int) 1 = 1 := by rw [F.and_one B hB, ho]; rfl
          clear hst hf hm ho
          go_wp2_with (go_at_call 54; refine (double_any _ hA _).mono ?_; rintro e w' ⟨rfl, rfl⟩)
          go_round
          case rel => exact ⟨f, F.dblN A, B / 2, S ^^^ A, hd, hxl, by omega, hf2, rfl, by go_num, rfl, HST.out⟩
          case measure => simp [intOf]; omega
        · rw [if_neg ho] at hst
          have HST := Lib.hid hst
          have hf2 : B / 2 < 2 ^ f := by rw [Nat.pow_succ] at hf; omega
          have hand : bits .and .u8 (B : Int) 1 = 0 := by rw [F.and_one B hB, show B % 2 = 0 by omega]; rfl
          clear hst hf hm ho
          go_wp2_with (go_at_call 54; refine (double_any _ hA _).mono ?_; rintro e w' ⟨rfl, rfl⟩)
          go_round
          case rel => exact ⟨f, F.dblN A, B / 2, S, hd, hS, by omega, hf2, rfl, by go_num, rfl, HST.out⟩
          case measure => simp [intOf]; omega
    · obtain rfl : B = 0 := by omega
      go_wp2
      go_ret
      refine ⟨ret_u8 ?_, rfl⟩
      rw [← hm.out, F.mulN_none, Nat.xor_zero]

theorem mul_any (a b : UInt8) (w : World) : Calls Try.prog 32 #[.int .u8 a.toNat, .int .u8 b.toNat] w fun e w' => e = .returned (.int .u8 (F.mulB a b).toNat) ∧ w = w' := by
  have h := mul_nat a.toNat b.toNat a.toNat_lt b.toNat_lt w
  have e : (F.mulB a b).toNat = F.mulN 8 a.toNat b.toNat := UInt8.toNat_ofNat_of_lt' (F.mulN_lt 8 _ _ a.toNat_lt)
  rw [e]; exact h
end Go.Proofs.Ytamkahjdedomlaa
