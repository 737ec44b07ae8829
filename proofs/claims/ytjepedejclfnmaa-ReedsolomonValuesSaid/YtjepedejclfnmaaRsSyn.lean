/-
  The walks of reedsolomon.Syndromes and IsCodeword.
-/
import Derived.Test.YtjepedejclfnmaaRsGen
import Derived.Test.YtjepedejclfnmaaSynPlain
namespace Go.Proofs.Ytjepedejclfnmaa
open Go.RowKit
set_option linter.unusedVariables false

set_option maxRecDepth 100000 in
theorem syn_range (s : ByteArray) (p : Int) (h : p < 1 ∨ 64 < p) (w : World) : Calls Try.prog 15 #[.string s, .int .i64 p] w fun e w' => e = .returned (.tuple #[.slice none 0 0, .int .i64 2]) ∧ w = w' := by
  by_cases h1 : p < 1
  · go_enter Try.func15, Try.ntmps15
    go_wp2
    go_ret2
    exact ⟨rfl, rfl⟩
  · have h2 : 64 < p := by omega
    go_enter Try.func15, Try.ntmps15
    go_wp2
    go_ret2
    exact ⟨rfl, rfl⟩
set_option maxRecDepth 100000 in
theorem syn_short (s : ByteArray) (p : Nat) (h1 : 1 ≤ p) (h2 : p ≤ 64) (h3 : s.size < p) (w : World) : Calls Try.prog 15 #[.string s, .int .i64 p] w fun e w' => e = .returned (.tuple #[.slice none 0 0, .int .i64 4]) ∧ w = w' := by
  go_enter Try.func15, Try.ntmps15
  go_wp2
  go_ret2
  exact ⟨rfl, rfl⟩
set_option maxRecDepth 100000 in
theorem syn_long (s : ByteArray) (p : Nat) (h1 : 1 ≤ p) (h2 : p ≤ 64) (h3 : 255 < s.size) (w : World) : Calls Try.prog 15 #[.string s, .int .i64 p] w fun e w' => e = .returned (.tuple #[.slice none 0 0, .int .i64 6]) ∧ w = w' := by
  go_enter Try.func15, Try.ntmps15
  go_wp2
  go_ret2
  exact ⟨rfl, rfl⟩

set_option maxRecDepth 100000 in
set_option maxHeartbeats 2000000 in
theorem syn_ok (s : ByteArray) (p : Nat) (h1 : 1 ≤ p) (h2 : p ≤ 64) (h3 : p ≤ s.size) (h4 : s.size ≤ 255) (w : World) : Calls Try.prog 15 #[.string s, .int .i64 p] w
    fun e w' => ∃ g, e = .returned (.tuple #[.slice (some ⟨g, 0, none⟩) p p, .int .i64 0]) ∧ w.heap.size ≤ g ∧ Cells w' g (synB s.data.toList p) ∧ Below w.heap.size w w' := by
  obtain ⟨l, hl⟩ : ∃ l, s.data.toList = l := ⟨_, rfl⟩
  rw [hl]
  have HSL : Hid (l.length = s.size) := by rw [← hl]; rfl
  have HAT : Hid (∀ k (h : k < s.size), s[k] = l[k]?.getD 0) := by
    intro k h
    rw [← hl, Array.getElem?_toList, Array.getElem?_eq_getElem (by exact h)]; rfl
  clear hl
  go_enter Try.func15, Try.ntmps15
  go_wp2_with (at_make; refine wpList_make_bytes rfl _ _ 22 5 rfl Try.underlying22 Try.infoU8 p (by go_num) (by go_num) (by omega) ?_; intro w1 hC1 hB1 hz1)
  go_loopw [30] (fun i wr => ∃ k : Nat, k ≤ p ∧ i = .int .i64 k ∧ Cells wr w.heap.size (synTo l p k) ∧ Below w.heap.size w wr) (fun i _ => p - (intOf i).toNat)
  case atStart => exact ⟨0, Nat.zero_le _, rfl, hC1, hB1⟩
  case round =>
    obtain ⟨k, hk, rfl, hC, hB⟩ := hrel
    obtain ⟨wo, hwo⟩ : ∃ wo : World, wo = wr := ⟨_, rfl⟩
    by_cases hlt : k < p
    · have HC0 := Lib.hid hC
      have HB0 := Lib.hid hB
      clear hC hB
      go_wp2_with fail
      refine (exp_nat k (by omega) _).mono ?_
      rintro e w2 ⟨rfl, hb2⟩
      go_wp2
      have hB2 : Below w.heap.size w w2 := HB0.out.trans (hb2.mono HB0.out.size)
      have hC2 := HC0.out.kept hb2
      clear hb2
      go_loopw [37] (fun j wr => ∃ r : Nat, r ≤ s.size ∧ j = .int .i64 r ∧ Cells wr w.heap.size ((synTo l p k).set k (hornTo l (F.expB k) r)) ∧ Below w.heap.size w wr) (fun j _ => s.size - (intOf j).toNat)
      case atStart => exact ⟨0, Nat.zero_le _, rfl, by rw [show hornTo l (F.expB k) 0 = 0 from rfl, syn_start l p k hlt]; exact hC2, hB2⟩
      case round =>
        clear hC2 hB2 hwo
        obtain ⟨r, hr, rfl, hC, hB⟩ := hrel
        by_cases hlr : r < s.size
        · have hlen : ((synTo l p k).set k (hornTo l (F.expB k) r)).length = p := by rw [List.length_set, synTo_len]
          have hco := hC.at k (by rw [hlen]; exact hlt)
          have hfo := hC.free k (by rw [hlen]; exact hlt)
          rw [List.getElem?_set_self (by rw [synTo_len]; exact hlt), Option.getD_some] at hco
          have hsk := HAT.out r hlr
          have hst : Hid (hornTo l (F.expB k) (r + 1) = F.mulB (hornTo l (F.expB k) r) (F.expB k) ^^^ (l[r]?.getD 0)) := rfl
          obtain ⟨x, hx⟩ : ∃ x, l[r]?.getD 0 = x := ⟨_, rfl⟩
          obtain ⟨y, hy⟩ : ∃ y, hornTo l (F.expB k) r = y := ⟨_, rfl⟩
          rw [hx] at hsk hst
          rw [hy] at hco hst
          obtain ⟨z, hz⟩ : ∃ z, F.mulB y (F.expB k) ^^^ x = z := ⟨_, rfl⟩
          have HZ := Lib.hid hz
          have HC := Lib.hid hC
          have HB := Lib.hid hB
          have HLEN := Lib.hid hlen
          clear hx hy hz hC hB hlen
          have e4 : (k : Int) < (p : Int) := by omega
          have e5 : (r : Int) < (s.size : Int) := by omega
          go_wp2_with fail
          go_still_tail 13, (by kernel_rfl)
          still_call (still_same (mul_any y (F.expB k) _))
          repeat still_step
          still_call (still_same (add_r (F.mulB y (F.expB k)) x z HZ _))
          repeat still_step
          refine wpStill_nil ?_
          change wpList _ _ _ _ _ wr.drew
          go_wp2
          go_roundw
          case rel =>
            refine ⟨r + 1, by omega, by go_num, ?_, (HB.out.setCell (Nat.le_refl _) _).drew⟩
            have := (HC.out.set k (by rw [HLEN.out]; exact hlt) z).drew
            rw [set_set] at this
            rw [hst.out, HZ.out]; exact this
          case measure => simp [intOf] <;> omega
        · obtain rfl : r = s.size := by omega
          go_wp2
          go_roundw
          case rel => exact ⟨k + 1, by omega, by go_num, by simp only [synTo]; unfold horn; rw [HSL.out]; exact hC, hB⟩
          case measure => simp [intOf] <;> omega
    · obtain rfl : k = p := by omega
      go_wp2
      go_ret2
      exact ⟨_, rfl, Nat.le_refl _, hC, hB⟩

set_option maxRecDepth 100000 in
theorem iscw_err (s : ByteArray) (p : Int) (c : Int) (hc : (c == 0) = false) (w : World) (h : ∀ w, Calls Try.prog 15 #[.string s, .int .i64 p] w fun e w' => e = .returned (.tuple #[.slice none 0 0, .int .i64 c]) ∧ w = w') :
    Calls Try.prog 19 #[.string s, .int .i64 p] w fun e w' => e = .returned (.bool false) ∧ w = w' := by
  have H := Lib.hid h
  clear h
  go_enter Try.func19, Try.ntmps19
  go_wp2_with fail
  refine (H.out _).mono ?_
  rintro e w' ⟨rfl, rfl⟩
  go_wp2
  refine wp_loop_rounds 1 ?_
  rw [rounds_succ]
  go_wp2
  go_ret
  exact ⟨rfl, rfl⟩
set_option maxRecDepth 100000 in
set_option maxHeartbeats 1000000 in
theorem iscw_any (s : ByteArray) (p : Int) (hp : -9223372036854775808 ≤ p) (hs : s.size ≤ maxLen) (w : World) : Calls Try.prog 19 #[.string s, .int .i64 p] w fun e w' => e = .returned (.bool (decide (1 ≤ p) && isCw s.data.toList p.toNat)) ∧ Below w.heap.size w w' := by
  have hsl : s.data.toList.length = s.size := rfl
  by_cases h1 : p < 1 ∨ 64 < p
  · have e : (decide (1 ≤ p) && isCw s.data.toList p.toNat) = false := by
      by_cases a : 1 ≤ p
      · rw [isCw_bad _ _ (by omega), Bool.and_false]
      · rw [decide_eq_false a]; rfl
    rw [e]
    exact (iscw_err s p 2 rfl w (fun w => syn_range s p h1 w)).mono fun e w' ⟨a, b⟩ => ⟨a, by rw [← b]; exact Below.refl _ _⟩
  · obtain ⟨q, rfl⟩ : ∃ q : Nat, p = q := ⟨p.toNat, by omega⟩
    have h2 : 1 ≤ q := by omega
    have h3 : q ≤ 64 := by omega
    rw [decide_eq_true (by omega : (1 : Int) ≤ q), Bool.true_and, Int.toNat_natCast]
    by_cases h4 : s.size < q
    · rw [isCw_bad _ _ (by omega)]
      exact (iscw_err s q 4 rfl w (fun w => syn_short s q h2 h3 h4 w)).mono fun e w' ⟨a, b⟩ => ⟨a, by rw [← b]; exact Below.refl _ _⟩
    · by_cases h5 : 255 < s.size
      · rw [isCw_bad _ _ (by omega)]
        exact (iscw_err s q 6 rfl w (fun w => syn_long s q h2 h3 h5 w)).mono fun e w' ⟨a, b⟩ => ⟨a, by rw [← b]; exact Below.refl _ _⟩
      · obtain ⟨l, hl⟩ : ∃ l, s.data.toList = l := ⟨_, rfl⟩
        have hok := fun w => syn_ok s q h2 h3 (by omega) (by omega) w
        rw [hl] at hok hsl ⊢
        have HOK := Lib.hid hok
        have HSL := Lib.hid hsl
        clear hok hl hsl
        go_enter Try.func19, Try.ntmps19
        go_wp2_with fail
        refine (HOK.out _).mono ?_
        rintro e w1 ⟨g, rfl, hg, hC, hB⟩
        go_wp2
        go_loop [17] (fun i => ∃ k : Nat, k ≤ q ∧ i = .int .i64 k ∧ Hid (∀ j, j < k → horn l (F.expB j) = 0)) (fun i => q - (intOf i).toNat)
        case atStart => exact ⟨0, Nat.zero_le _, rfl, fun j hj => by omega⟩
        case round =>
          obtain ⟨k, hk, rfl, hz⟩ := hrel
          by_cases hlt : k < q
          · have hco := hC.at k (by rw [synB_len]; exact hlt)
            rw [synB_at l q k hlt] at hco
            obtain ⟨x, hx⟩ : ∃ x, horn l (F.expB k) = x := ⟨_, rfl⟩
            rw [hx] at hco
            have HX := Lib.hid hx
            have HC := Lib.hid hC
            clear hx hC
            by_cases h0 : x = 0
            · subst h0
              have hco' : w1.cell? ⟨g, k, none⟩ = some (.int .u8 0) := hco
              clear hco
              go_wp2
              go_round
              case rel =>
                refine ⟨k + 1, by omega, by go_num, fun j hj => ?_⟩
                by_cases e : j = k
                · subst e; exact HX.out
                · exact hz.out j (by omega)
              case measure => simp [intOf] <;> omega
            · have hne := u8_ne x 0 0 rfl h0
              go_wp2
              go_ret
              exact ⟨ret_bool (isCw_no l q k hlt (by rw [HX.out]; exact h0)).symm, hB⟩
          · obtain rfl : k = q := by omega
            go_wp2
            go_ret
            exact ⟨ret_bool ((isCw_iff l k).2 ⟨⟨h2, h3, by rw [HSL.out]; omega, by rw [HSL.out]; omega⟩, hz.out⟩).symm, hB⟩
end Go.Proofs.Ytjepedejclfnmaa
