/-
  The walk of the law ReedsolomonDetects.
-/
import Derived.Test.YtjepedejclfnmaaRsPre
import Derived.Deep.RegionWith
namespace Go.Proofs.Ytjepedejclfnmaa
open Go.RowKit
set_option linter.unusedVariables false

theorem cntTo_self (a : List UInt8) (k : Nat) : cntTo a a k = 0 := by
  induction k with
  | zero => rfl
  | succ k ih => simp [cntTo, ih]
theorem cntTo_set_out (a b : List UInt8) (j : Nat) (x : UInt8) (k : Nat) (h : k ≤ j) : cntTo (a.set j x) b k = cntTo a b k := by
  induction k with
  | zero => rfl
  | succ k ih => simp only [cntTo]; rw [ih (by omega), List.getElem?_set_ne (by omega)]
theorem cntTo_set (a b : List UInt8) (j : Nat) (x : UInt8) (k : Nat) : cntTo (a.set j x) b k ≤ cntTo a b k + 1 := by
  induction k with
  | zero => exact Nat.zero_le _
  | succ k ih =>
    simp only [cntTo]
    by_cases e : j = k
    · subst e
      rw [cntTo_set_out a b j x j (Nat.le_refl _)]
      split <;> split <;> omega
    · rw [List.getElem?_set_ne e]; omega

set_option maxRecDepth 100000 in
set_option maxHeartbeats 2000000 in
theorem reedsolomonDetects.walk (s : ByteArray) (w0 : s.size ≤ maxLen) (q : Int) (w1 : (Lit.int .u8 q).wf = true) (C : ByteArray) (w2 : C.size ≤ maxLen) (w : World) :
    Calls Try.prog 7 #[.string s, .int .u8 q, .string C] w fun e w' => e = .returned (.bool true) ∧ Below w.heap.size w w' := by
  obtain ⟨Q, hQ, rfl⟩ := u8_of w1
  obtain ⟨p, n, X, Y, h1, h2, h3, hp, hn, hX, hY, hXs, hYs, hla, hlb, hw⟩ := words_use s s w0 w0 Q hQ
  obtain ⟨N, hN⟩ : ∃ N, n + p = N := ⟨_, rfl⟩
  obtain ⟨l, hl⟩ : ∃ l, X.data.toList = l := ⟨_, rfl⟩
  have hll : l.length = N := by rw [← hl, ← hN, ← hXs]; rfl
  have hXN : X.size = N := by omega
  have hroot : ∀ i, i < p → horn l (F.expB i) = 0 := by rw [← hl, hX]; exact fun i hi => enc_root _ p i h1 hi
  have hcw : isCw l p = true := (isCw_iff _ _).2 ⟨⟨h1, h2, by omega, by omega⟩, hroot⟩
  have huni : ∀ L : List UInt8, L.length = N → cntTo L l N ≤ p → L ≠ l → isCw L p = false := by
    intro L hL hc hne
    rw [Bool.eq_false_iff]
    intro e
    refine hne (cw_unique L l p (by omega) (by omega) ((isCw_iff _ _).1 e).2 hroot ?_)
    rw [diffs_len, hL]; exact hc
  have HW := Lib.hid hw
  have HLL := Lib.hid hll
  have HCW := Lib.hid hcw
  have HUNI := Lib.hid huni
  have HL := Lib.hid hl
  have HXN := Lib.hid hXN
  have hN2 : N ≤ 255 := by omega
  have hN1 : 1 ≤ N := by omega
  clear hX hY hXs hYs hla hlb hw hn w0 w1 hp hl hll hroot hcw huni h3 hN hXN
  have hCs : C.size ≤ 9223372036854775807 := w2
  clear w2
  go_enter Try.func7, Try.ntmps7
  go_wp2_with fail
  refine (HW.out _).mono ?_
  rintro e w1 ⟨rfl, hB1⟩
  have HB1 := Lib.hid hB1
  clear hB1
  go_wp2_with (with_reducible refine wpList_bytes rfl _ _ _ 5 rfl Try.underlying9 Try.underlying22 Try.underlying5 X N HXN.out rfl ?_; intro cap w2 hcap hm hb2 hz2)
  rw [HL.out] at hm
  obtain ⟨B, hBe⟩ : ∃ B, w1.heap.size = B := ⟨_, rfl⟩
  have hwz : w.heap.size ≤ w1.heap.size := HB1.out.size
  have HB2 := Lib.hid (bt HB1.out hb2)
  rw [hBe] at hm hwz ⊢
  have HM := Lib.hid hm
  clear hm hb2 hz2 hBe HB1
  go_wp2_with fail
  go_loopw [12] (fun i wr => ∃ (k : Nat) (L : List UInt8), k ≤ p ∧ i = .int .i64 (2 * (k : Int)) ∧ L.length = N ∧ Cells wr B L ∧ Hid (cntTo L l N ≤ k) ∧ 2 * k ≤ 9223372036854775807 ∧ Below w.heap.size w wr) (fun i _ => 2 * p - (intOf i).toNat)
  case atStart => exact ⟨0, l, Nat.zero_le _, rfl, HLL.out, HM.out, by unfold Hid; rw [cntTo_self]; exact Nat.le_refl _, by omega, HB2.out⟩
  case round =>
    clear HM HB2
    obtain ⟨k, L, hk, rfl, hL, hC, hcnt, hk2, hB⟩ := hrel
    have HLe := Lib.hid hL
    have HC := Lib.hid hC
    have HB := Lib.hid hB
    have j1 : IntKind.i64.wrap (2 * (k : Int) + 1) = 2 * (k : Int) + 1 := IntWalk.i64_in _ (by omega)
    have j2 : IntKind.i64.wrap (2 * (p : Int)) = 2 * (p : Int) := IntWalk.i64_in _ (by omega)
    clear hC hB
    by_cases hgo : 2 * k + 1 < C.size ∧ 2 * k + 1 < 2 * p
    · obtain ⟨g1, g2⟩ := hgo
      have g3 : 2 * (k : Int) + 1 < (C.size : Int) := by omega
      have g4 : 2 * (k : Int) + 1 < 2 * (p : Int) := by omega
      obtain ⟨x, hx⟩ : ∃ x, C[2 * k] = x := ⟨_, rfl⟩
      obtain ⟨y, hy⟩ : ∃ y, C[2 * k + 1] = y := ⟨_, rfl⟩
      have f1 : (2 * (k : Int)).toNat = 2 * k := by omega
      have f2 : (2 * (k : Int) + 1).toNat = 2 * k + 1 := by omega
      have f3 : 2 * (k : Int) < (C.size : Int) := by omega
      have f4 : 0 ≤ 2 * (k : Int) + 1 := by omega
      have f5 : 2 * k < C.size := by omega
      have f6 : 0 ≤ 2 * (k : Int) := by omega
      obtain ⟨j, hj⟩ : ∃ j, x.toNat % N = j := ⟨_, rfl⟩
      have hjN : j < N := by rw [← hj]; exact Nat.mod_lt _ (by omega)
      have hji : (x.toNat : Int).tmod N = j := by rw [Int.tmod_eq_emod_of_nonneg (by omega), ← hj]; exact (Int.natCast_emod _ _).symm
      have hji' : (x.toNat : Int) % N = j := by rw [← hj]; exact (Int.natCast_emod _ _).symm
      have hjN' : (j : Int) < N := by omega
      have hN0 : ¬ N = 0 := by omega
      have hwx : IntKind.i64.wrap (x.toNat : Int) = x.toNat := IntWalk.i64_in _ (by have := x.toNat_lt; omega)
      have hco := HC.out.at j (by rw [HLe.out]; exact hjN)
      have hfo := HC.out.free j (by rw [HLe.out]; exact hjN)
      obtain ⟨z, hz⟩ : ∃ z, L[j]?.getD 0 = z := ⟨_, rfl⟩
      rw [hz] at hco
      obtain ⟨r, hr⟩ : ∃ r, z ^^^ y = r := ⟨_, rfl⟩
      have hxx := xor_r _ _ _ hr
      clear hj hz hr
      go_wp2_with fail
      go_still_tail 24, (by kernel_rfl)
      change wpList _ _ _ _ _ wr.drew
      go_wp2
      go_roundw
      case rel =>
        refine ⟨k + 1, L.set j r, by omega, by go_num, by rw [List.length_set]; exact HLe.out, (HC.out.set j (by rw [HLe.out]; exact hjN) r).drew, ?_, by omega, (HB.out.setCell (by exact hwz) _).drew⟩
        exact Nat.le_trans (cntTo_set L l j r N) (Nat.succ_le_succ hcnt.out)
      case measure => simp [intOf] <;> omega
    · have hst := fun (w' : World) (h : Cells w' B L) => run_str (P := Try.prog) w' 22 9 5 B N cap L Try.underlying22 Try.underlying5 Try.underlying9 h HLe.out
      obtain ⟨V, hV⟩ : ∃ V : ByteArray, ⟨L.toArray⟩ = V := ⟨_, rfl⟩
      rw [hV] at hst
      have hVd : V.data.toList = L := by rw [← hV]
      have hVs : V.size = N := by rw [← HLe.out, ← hVd]; rfl
      have hcwv : ∀ t, isCw L p = t → ∀ w, Calls Try.prog 19 #[.string V, .int .i64 p] w fun e w' => e = .returned (.bool t) ∧ Below w.heap.size w w' := by
        intro t ht w
        have := iscw_any V p (by omega) (by unfold maxLen; omega) w
        rw [hVd, Int.toNat_natCast, ht, decide_eq_true (by omega : (1 : Int) ≤ p)] at this
        exact this
      have hcases : (isCw L p = true ∧ V = X) ∨ (isCw L p = false ∧ ¬ V = X) := by
        by_cases e : L = l
        · exact Or.inl ⟨by rw [e]; exact HCW.out, ba_ext (by rw [hVd, HL.out, e])⟩
        · exact Or.inr ⟨HUNI.out L HLe.out (Nat.le_trans hcnt.out hk) e, fun c => e (by rw [← hVd, c, HL.out])⟩
      have HCV := Lib.hid hcwv
      have HST := Lib.hid hst
      have hst1 := hst wr.drew HC.out.drew
      have hexit : (¬ 2 * (k : Int) + 1 < (C.size : Int)) ∨ (2 * (k : Int) + 1 < (C.size : Int) ∧ ¬ 2 * (k : Int) + 1 < 2 * (p : Int)) := by omega
      clear hV hVd hVs hcwv hgo hst
      rcases hcases with ⟨t1, t2⟩ | ⟨t1, t2⟩
      · subst t2
        have HCT := Lib.hid (HCV.out true t1)
        clear HCV t1
        rcases hexit with g1 | ⟨g1, g2⟩
        all_goals
          go_wp2_with fail
          go_region_with (first
            | (go_at_call 19; refine (HCT.out _).mono ?_; rintro e w2 ⟨rfl, hb2⟩; have hst2 := HST.out w2 (HC.out.drew.kept hb2))
            | (go_at_call 17; refine (awake_any _).mono ?_; rintro e w3 ⟨rfl, hb3⟩))
          all_goals
            have HB3 := Lib.hid (bt (bt HB.out.drew hb2) hb3)
            clear hb2 hb3 hst2
            go_wp2
            go_ret
            exact ⟨rfl, HB3.out⟩
      · have t3 : (V.toList == X.toList) = false := beq_eq_false_iff_ne.2 (str_ne t2)
        have HCT := Lib.hid (HCV.out false t1)
        clear HCV t1 t2
        rcases hexit with g1 | ⟨g1, g2⟩
        all_goals
          go_wp2_with fail
          go_region_with (first
            | (go_at_call 19; refine (HCT.out _).mono ?_; rintro e w2 ⟨rfl, hb2⟩; have hst2 := HST.out w2 (HC.out.drew.kept hb2))
            | (go_at_call 17; refine (awake_any _).mono ?_; rintro e w3 ⟨rfl, hb3⟩))
          all_goals
            have HB3 := Lib.hid (bt (bt HB.out.drew hb2) hb3)
            clear hb2 hb3 hst2
            go_wp2
            go_ret
            exact ⟨rfl, HB3.out⟩
end Go.Proofs.Ytjepedejclfnmaa
