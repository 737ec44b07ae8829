/-
  The walk of the law ReedsolomonEvaluates.
-/
import Derived.Test.YtjepedejclfnmaaRsPre
import Derived.Deep.RegionWith
namespace Go.Proofs.Ytjepedejclfnmaa
open Go.RowKit
set_option linter.unusedVariables false

def rvTo (l : List UInt8) : Nat → List UInt8
  | 0 => List.replicate l.length 0
  | k + 1 => (rvTo l k).set k (l[l.length - 1 - k]?.getD 0)
theorem rvTo_len (l : List UInt8) (k : Nat) : (rvTo l k).length = l.length := by
  induction k with
  | zero => simp [rvTo]
  | succ k ih => simp only [rvTo, List.length_set]; exact ih
theorem co_rvTo (l : List UInt8) (k : Nat) (hk : k ≤ l.length) (n : Nat) : co (rvTo l k) n = if n < k then co l (l.length - 1 - n) else 0 := by
  induction k with
  | zero => exact co_replicate _ _
  | succ k ih =>
    simp only [rvTo]
    rw [co_set _ _ _ _ (by rw [rvTo_len]; omega), ih (by omega)]
    by_cases e : n = k
    · subst e; rw [if_pos rfl, if_pos (by omega)]; rfl
    · rw [if_neg e]
      by_cases c : n < k
      · rw [if_pos c, if_pos (by omega)]
      · rw [if_neg c, if_neg (by omega)]
theorem rvTo_all (l : List UInt8) : rvTo l l.length = l.reverse := by
  refine co_ext (by rw [rvTo_len, List.length_reverse]) fun n hn => ?_
  rw [rvTo_len] at hn
  rw [co_rvTo l _ (Nat.le_refl _), if_pos hn]
  unfold co; rw [List.getElem?_reverse hn]

set_option maxRecDepth 100000 in
set_option maxHeartbeats 2000000 in
theorem reedsolomonEvaluates.walk (s : ByteArray) (w0 : s.size ≤ maxLen) (q : Int) (w1 : (Lit.int .u8 q).wf = true) (w : World) :
    Calls Try.prog 10 #[.string s, .int .u8 q] w fun e w' => e = .returned (.bool true) ∧ Below w.heap.size w w' := by
  obtain ⟨Q, hQ, rfl⟩ := u8_of w1
  obtain ⟨p, hp⟩ : ∃ p, Q % 64 + 1 = p := ⟨_, rfl⟩
  have h1 : 1 ≤ p := by omega
  have h2 : p ≤ 64 := by omega
  have e1 : IntKind.i64.wrap ((Q : Int) % 64 + 1) = p := by rw [show (Q : Int) % 64 + 1 = p by omega]; exact IntWalk.i64_in _ (by omega)
  clear w0 w1 hp
  by_cases h3 : s.size < p
  · go_enter Try.func10, Try.ntmps10
    go_wp2_with fail
    refine (syn_short s p h1 h2 h3 _).mono ?_
    rintro e w2 ⟨rfl, rfl⟩
    go_wp2_with fail
    refine (awake_any _).mono ?_
    rintro e w4 ⟨rfl, hB4⟩
    have HB4 := Lib.hid hB4
    clear hB4
    go_wp2
    go_ret
    exact ⟨rfl, HB4.out⟩
  · by_cases h4 : 255 < s.size
    · have h3' : ¬ (s.size : Int) < p := by omega
      go_enter Try.func10, Try.ntmps10
      go_wp2_with fail
      refine (syn_long s p h1 h2 h4 _).mono ?_
      rintro e w2 ⟨rfl, rfl⟩
      go_wp2_with fail
      refine (awake_any _).mono ?_
      rintro e w4 ⟨rfl, hB4⟩
      have HB4 := Lib.hid hB4
      clear hB4
      go_wp2
      go_ret
      exact ⟨rfl, HB4.out⟩
    · have hok := fun w => syn_ok s p h1 h2 (by omega) (by omega) w
      obtain ⟨l, hl⟩ : ∃ l, s.data.toList = l := ⟨_, rfl⟩
      obtain ⟨hll, hat⟩ := str_at hl
      rw [hl] at hok
      have HOK := Lib.hid hok
      have HLL := Lib.hid hll
      have HAT := Lib.hid hat
      obtain ⟨N, hN⟩ : ∃ N, s.size = N := ⟨_, rfl⟩
      have hN2 : N ≤ 255 := by omega
      have hNs : (s.size : Int) = N := by omega
      clear hok hll hat hl
      go_enter Try.func10, Try.ntmps10
      go_wp2_with fail
      refine (HOK.out _).mono ?_
      rintro e w1 ⟨g, rfl, hg, hC, hB⟩
      have HC := Lib.hid hC
      have HB := Lib.hid hB
      clear hC hB
      go_wp2_with (at_make; refine wpList_make_bytes rfl _ _ 22 5 rfl Try.underlying22 Try.infoU8 N (by go_num) (by go_num) (by omega) ?_; intro w2 hC2 hB2 hz2)
      have hg1 : g < w1.heap.size := HC.out.1
      have HS2 := Lib.hid (HC.out.kept hB2)
      have HB2 := Lib.hid (bt HB.out hB2)
      have hwz : w.heap.size ≤ w1.heap.size := HB.out.size
      have hrl : (List.replicate N (0 : UInt8)) = rvTo l 0 := by simp only [rvTo]; rw [HLL.out, hN]
      rw [hrl] at hC2
      obtain ⟨B2, hBB⟩ : ∃ B2, w1.heap.size = B2 := ⟨_, rfl⟩
      rw [hBB] at hC2 hg1 hwz ⊢
      have hlN : l.length = N := HLL.out.trans hN
      have HLN := Lib.hid hlN
      have HC2 := Lib.hid hC2
      clear hB2 hz2 hrl hC2 hlN HB HC hBB
      go_loopw [40] (fun i wr => ∃ k : Nat, k ≤ N ∧ i = .int .i64 k ∧ Cells wr B2 (rvTo l k) ∧ Cells wr g (synB l p) ∧ Below w.heap.size w wr) (fun i _ => N - (intOf i).toNat)
      case atStart => exact ⟨0, Nat.zero_le _, rfl, HC2.out, HS2.out, HB2.out⟩
      case round =>
        clear HC2 HS2 HB2
        obtain ⟨k, hk, rfl, hP, hS, hB⟩ := hrel
        by_cases hlt : k < N
        · have hsk := HAT.out (N - 1 - k) (by omega)
          have hlen : (rvTo l k).length = N := by rw [rvTo_len, HLN.out]
          have hco := hP.at k (by omega)
          have hfo := hP.free k (by omega)
          have hst : Hid (rvTo l (k + 1) = (rvTo l k).set k (l[N - 1 - k]?.getD 0)) := by unfold Hid; rw [← HLN.out]; rfl
          obtain ⟨x, hx⟩ : ∃ x, l[N - 1 - k]?.getD 0 = x := ⟨_, rfl⟩
          rw [hx] at hsk hst
          have HP := Lib.hid hP
          have HS := Lib.hid hS
          have HB := Lib.hid hB
          have HLEN := Lib.hid hlen
          clear hx hP hS hB hlen
          have i1 : IntKind.i64.wrap ((N : Int) - 1) = (N : Int) - 1 := IntWalk.i64_in _ (by omega)
          have i2 : IntKind.i64.wrap ((N : Int) - 1 - k) = (N : Int) - 1 - k := IntWalk.i64_in _ (by omega)
          have i3 : ((N : Int) - 1 - k).toNat = N - 1 - k := by omega
          have i4 : (k : Int) ≤ (N : Int) - 1 := by omega
          have i5 : (N : Int) - 1 - k < (N : Int) := by omega
          have i6 : (k : Int) < (N : Int) := by omega
          have i7 : N - 1 - k < N := by omega
          go_wp2
          go_roundw
          case rel => exact ⟨k + 1, by omega, by go_num, by rw [hst.out]; exact HP.out.set _ (by rw [HLEN.out]; exact hlt) x, HS.out.other _ (by show B2 ≠ g; omega) _, HB.out.setCell hwz _⟩
          case measure => simp [intOf] <;> omega
        · obtain rfl : k = N := by omega
          have hP' := hP
          rw [show rvTo l k = l.reverse by rw [← HLN.out]; exact rvTo_all l] at hP'
          have HP := Lib.hid hP'
          have HS := Lib.hid hS
          have HB := Lib.hid hB
          clear hP hP' hS hB
          go_wp2_with fail
          go_loopw [56] (fun i wr => ∃ j : Nat, j ≤ p ∧ i = .int .i64 j ∧ Cells wr B2 l.reverse ∧ Cells wr g (synB l p) ∧ Below w.heap.size w wr) (fun i _ => p - (intOf i).toNat)
          case atStart => exact ⟨0, Nat.zero_le _, rfl, HP.out, HS.out, HB.out⟩
          case round =>
            clear HP HS HB
            obtain ⟨j, hj, rfl, hP, hS, hB⟩ := hrel
            by_cases hltj : j < p
            · have hco := hS.at j (by rw [synB_len]; exact hltj)
              rw [synB_at l p j hltj] at hco
              have hev : evB l.reverse (F.expB j) = horn l (F.expB j) := by unfold evB; rw [List.reverse_reverse]
              obtain ⟨x, hx⟩ : ∃ x, horn l (F.expB j) = x := ⟨_, rfl⟩
              have HX := Lib.hid hx
              rw [hx] at hco hev
              have HEV := Lib.hid hev
              have HP := Lib.hid hP
              have HS := Lib.hid hS
              have HB := Lib.hid hB
              have i6 : (j : Int) < (p : Int) := by omega
              have hbb : ((x.toNat : Int) != (x.toNat : Int)) = false := bne_self_eq_false _
              clear hx hev hP hS hB
              have hj255 : j < 255 := by omega
              have hsl : ∀ w' : World, Cells w' B2 l.reverse → Sl w' 0 (.slice (some ⟨B2, 0, none⟩) k k) l.reverse := fun w' h => Sl.of_cells h (Nat.zero_le _) (by rw [List.length_reverse, HLN.out]; exact Nat.le_refl _) (by unfold maxLen; omega) _ (by rw [List.length_reverse, HLN.out])
              have hln : l.reverse.length ≤ 100000 := by rw [List.length_reverse, HLN.out]; omega
              have HSL := Lib.hid hsl
              have HLR := Lib.hid hln
              clear hsl hln
              go_wp2_with fail
              go_region_with (first
                | (go_at_call 24; refine (exp_nat j hj255 _).mono ?_; rintro e w2 ⟨rfl, hb2⟩; have hP2 := Lib.hid (HP.out.drew.kept hb2); have hS2 := Lib.hid (HS.out.drew.kept hb2); have hco2 := hS2.out.at j (by rw [synB_len]; exact hltj); rw [synB_at l p j hltj, HX.out] at hco2)
                | (go_at_call 22; refine (eval_any (.slice (some ⟨B2, 0, none⟩) k k) l.reverse (F.expB j) w2 (HSL.out _ hP2.out) HLR.out).mono ?_; rintro e w3 ⟨rfl, m, rfl⟩; rw [HEV.out]))
              all_goals
                have HP3 : Hid (Cells (w2.drewN m) B2 l.reverse) := by exact hP2.out.drewN m
                have HS3 : Hid (Cells (w2.drewN m) g (synB l p)) := by exact hS2.out.drewN m
                have HB3 : Hid (Below w.heap.size w (w2.drewN m)) := by exact below_drewN (bt HB.out.drew hb2) m
                clear hb2 hP2 hS2 hco2
                go_wp2
                go_roundw
                case rel => exact ⟨j + 1, by omega, by go_num, HP3.out, HS3.out, HB3.out⟩
                case measure => simp [intOf] <;> omega
            · obtain rfl : j = p := by omega
              have HB := Lib.hid hB
              clear hP hS hB
              go_wp2_with fail
              refine (awake_any _).mono ?_
              rintro e w4 ⟨rfl, hB4⟩
              have HB4 := Lib.hid (bt HB.out hB4)
              clear hB4
              go_wp2
              go_ret
              exact ⟨rfl, HB4.out⟩
end Go.Proofs.Ytjepedejclfnmaa
