/-
  The walk of the law SyncmarkTolerance.
-/
import Derived.Test.YtcklenkpalfjgaaSmLaws3
import Derived.Test.YtcklenkpalfjgaaBy
namespace Go.Proofs.Ytcklenkpalfjgaa
open Go.RowKit
set_option linter.unusedVariables false

namespace Sm
/-- What holds when k cells of the mark have been looked at: the row's first k cells are as they were turned, the others are the mark's. -/
def Tol (w wr : World) (B g : Nat) (ch : List UInt8) (k : Nat) (L : List UInt8) : Prop :=
  Cells wr B ch ∧ Cells wr g L ∧ L.length = 16 ∧ (∀ j, k ≤ j → j < 16 → L[j]?.getD 0 = markB.data[j]?.getD 0) ∧ Below w.heap.size w wr ∧ w.heap.size ≤ g ∧ B ≠ g
theorem Tol.set {w wr : World} {B g : Nat} {ch : List UInt8} {k : Nat} {L : List UInt8} (h : Tol w wr B g ch k L) (hk : k < 16) (b : UInt8) :
    Tol w (wr.setCell ⟨g, k, none⟩ (.int .u8 (b.toNat : Int))) B g ch (k + 1) (L.set k b) := by
  obtain ⟨h1, h2, h3, h4, h5, h6, h7⟩ := h
  refine ⟨h1.other _ (fun e => h7 e.symm) _, h2.set k (by omega) b, by simpa using h3, fun j a c => ?_, h5.setCell h6 _, h6, h7⟩
  rw [List.getElem?_set_ne (by omega)]; exact h4 j (by omega) c
theorem Tol.skip {w wr : World} {B g : Nat} {ch : List UInt8} {k : Nat} {L : List UInt8} (h : Tol w wr B g ch k L) : Tol w wr B g ch (k + 1) L := by
  obtain ⟨h1, h2, h3, h4, h5, h6, h7⟩ := h
  exact ⟨h1, h2, h3, fun j a c => h4 j (by omega) c, h5, h6, h7⟩
theorem off_set (L : List UInt8) (k : Nat) (b : UInt8) (m : Nat) (hm : m ≤ k) : offTo ⟨(L.set k b).toArray⟩ (0 : Nat) m = offTo ⟨L.toArray⟩ (0 : Nat) m := by
  refine offTo_congr _ _ 0 0 m fun i hi => ?_
  rw [cellAt_ofNat, cellAt_ofNat]
  simp only [List.getElem?_toArray]
  rw [List.getElem?_set_ne (by omega)]
theorem mark_two : ∀ k, k < 16 → markB.data[k]?.getD 0 = 48 ∨ markB.data[k]?.getD 0 = 49 := by
  have h : ∀ k : Fin 16, markB.data[k.val]?.getD 0 = 48 ∨ markB.data[k.val]?.getD 0 = 49 := by decide
  exact fun k hk => h ⟨k, hk⟩
theorem off_hit (L : List UInt8) (k : Nat) (b : UInt8) (hk : k < L.length) (hb : b ≠ markB.data[k]?.getD 0) :
    offTo ⟨(L.set k b).toArray⟩ (0 : Nat) (k + 1) = offTo ⟨L.toArray⟩ (0 : Nat) k + 1 := by
  simp only [offTo]
  rw [off_set L k b k (Nat.le_refl _)]
  rw [if_pos]
  rw [show ((0 : Nat) : Int) + (k : Int) = ((k : Nat) : Int) by omega, cellAt_ofNat, cellAt_ofNat]
  simp only [List.getElem?_toArray]
  rw [List.getElem?_set_self hk, Option.getD_some]
  intro e; exact hb (UInt8.toNat_inj.1 (by omega))
theorem off_miss (L : List UInt8) (k : Nat) (hb : L[k]?.getD 0 = markB.data[k]?.getD 0) : offTo ⟨L.toArray⟩ (0 : Nat) (k + 1) = offTo ⟨L.toArray⟩ (0 : Nat) k := by
  simp only [offTo]
  rw [if_neg, Int.add_zero]
  rw [show ((0 : Nat) : Int) + (k : Int) = ((k : Nat) : Int) by omega, cellAt_ofNat, cellAt_ofNat]
  simp only [List.getElem?_toArray]
  rw [hb]; exact fun h => h rfl
def offs (L : List UInt8) (k : Nat) : Int := offTo ⟨L.toArray⟩ (0 : Nat) k
theorem offs_bd (L : List UInt8) (k : Nat) : 0 ≤ offs L k ∧ offs L k ≤ k := offTo_bd _ _ _
theorem offs_hit (L : List UInt8) (k : Nat) (b m : UInt8) (hk : k < L.length) (hm : markB.data[k]?.getD 0 = m) (hb : b ≠ m) : offs (L.set k b) (k + 1) = offs L k + 1 :=
  off_hit L k b hk (by rw [hm]; exact hb)
theorem offs_miss (L : List UInt8) (k : Nat) (hb : L[k]?.getD 0 = markB.data[k]?.getD 0) : offs L (k + 1) = offs L k := off_miss L k hb
theorem strip_dist (b c : ByteArray) (L : List UInt8) (hL : L.length = 16) : dist (b ++ ⟨L.toArray⟩ ++ c) (b.size : Nat) = offs L 16 := by
  have h := dist_mid b ⟨L.toArray⟩ c 0 (by show 0 + 16 ≤ L.toArray.size; simp; omega)
  rw [Nat.add_zero] at h
  rw [h, dist_off]; rfl
theorem strip_size (b c : ByteArray) (L : List UInt8) (hL : L.length = 16) : (b ++ ⟨L.toArray⟩ ++ c).size = b.size + 16 + c.size := by
  rw [append_size, append_size]; show b.size + L.toArray.size + c.size = _; simp [hL]
end Sm

set_option maxHeartbeats 1000000 in
theorem syncmarkTolerance.walk (b : ByteArray) (w0 : b.size ≤ maxLen) (c : ByteArray) (w1 : c.size ≤ maxLen) (ch : List UInt8) (hch : ch.length = 16) (w : World) :
    Calls Try.prog 5 #[.string b, .string c, .agg (ch.map u8v).toArray] w fun e w' => e = .returned (.bool true) ∧ Below w.heap.size w w' := by
  have w0' := w0
  have w1' := w1
  unfold maxLen at w0 w1
  have HC := Lib.hid hch; clear hch
  by_cases hz : b.size ≤ 500
  · by_cases hy : c.size ≤ 500
    · go_enter Try.func5, Try.ntmps5
      go_wp2_with fail
      refine (alive_any _).mono ?_; rintro e w2 ⟨rfl, hb1⟩
      go_wp2_with fail
      refine (mark_any _).mono ?_; rintro e w2 ⟨rfl, rfl⟩
      go_wp2_with (with_reducible refine wpList_bytes rfl _ _ _ 5 rfl Try.underlying9 Try.underlying29 Try.underlying5 Sm.markB 16 rfl rfl ?_; intro cap w3 hcap hm hb3 hz3)
      have hbox : Cells (w.alloc (Obj.cells (List.map u8v ch).toArray 28)) w.heap.size ch := by
        refine ⟨by simp, fun i hi => ⟨?_, ?_⟩⟩
        · rw [World.cell?_alloc_mark, List.getElem?_toArray, List.getElem?_map, List.getElem?_eq_getElem hi]; rfl
        · rw [World.frozen?_alloc_mark, decide_eq_false (by omega : ¬ i < 0), Bool.and_false]
      have hsz2 := hb1.size
      rw [World.size_alloc] at hsz2
      have hT : Sm.Tol w w3 w.heap.size w2.heap.size ch 0 Sm.markB.data.toList := by
        refine ⟨(hbox.kept hb1).kept hb3, hm, rfl, fun j _ _ => by rw [Array.getElem?_toList], ?_, by omega, by omega⟩
        exact ((((Below.refl _ _).alloc (Nat.le_refl _) _).trans (hb1.mono (by simp))).trans (hb3.mono (by omega)))
      clear hb1 hm hb3 hbox
      go_loopw [8, 9] (fun n i wr => ∃ (k : Nat) (L : List UInt8), k ≤ 16 ∧ i = .int .i64 k ∧ n = .int .i64 (Sm.offs L k) ∧ Sm.Tol w wr w.heap.size w2.heap.size ch k L) (fun _ i _ => 16 - (intOf i).toNat)
      case atStart => exact ⟨0, _, Nat.zero_le _, rfl, rfl, hT⟩
      case round =>
        obtain ⟨k, L, hk, rfl, rfl, hT⟩ := hrel
        have hd := Sm.offs_bd L k
        by_cases hlt : k < 16
        · have hc1 := hT.1.at k (by rw [HC.out]; exact hlt)
          have hc2 := hT.2.1.at k (by rw [hT.2.2.1]; exact hlt)
          have hf2 := hT.2.1.free k (by rw [hT.2.2.1]; exact hlt)
          obtain ⟨x, hx⟩ : ∃ x : UInt8, ch[k]?.getD 0 = x := ⟨_, rfl⟩
          have hxb := x.toNat_lt
          rw [hx] at hc1
          have hmk := hT.2.2.2.1 k (Nat.le_refl _) hlt
          rw [hmk] at hc2
          have HMK := Lib.hid hmk
          have HT := Lib.hid hT
          clear hx hmk hT
          rcases Sm.mark_two k hlt with h4 | h4
          all_goals
            rw [h4] at hc2
            have H4 := Lib.hid h4; clear h4
            go_wp2
            · go_roundw
              case rel => exact ⟨k + 1, L.set k 63, by omega, by go_num, by rw [Sm.offs_hit L k 63 _ (by rw [HT.out.2.2.1]; exact hlt) H4.out (by decide)], HT.out.set hlt 63⟩
              case measure => simp [intOf]; omega
            · go_roundw
              case rel => first
                | exact ⟨k + 1, L.set k 49, by omega, by go_num, by rw [Sm.offs_hit L k 49 48 (by rw [HT.out.2.2.1]; exact hlt) H4.out (by decide)], HT.out.set hlt 49⟩
                | exact ⟨k + 1, L.set k 48, by omega, by go_num, by rw [Sm.offs_hit L k 48 49 (by rw [HT.out.2.2.1]; exact hlt) H4.out (by decide)], HT.out.set hlt 48⟩
              case measure => simp [intOf]; omega
            · go_roundw
              case rel => exact ⟨k + 1, L, by omega, by go_num, by rw [Sm.offs_miss L k HMK.out], HT.out.skip⟩
              case measure => simp [intOf]; omega
        · obtain rfl : k = 16 := by omega
          have hst := run_str (P := Try.prog) wr 29 9 5 w2.heap.size 16 cap L Try.underlying29 Try.underlying5 Try.underlying9 hT.2.1 hT.2.2.1
          have e1 := Sm.strip_dist b c L hT.2.2.1
          have e2 := Sm.strip_size b c L hT.2.2.1
          have e0 : (⟨L.toArray⟩ : ByteArray).size ≤ 16 := by show L.toArray.size ≤ 16; rw [List.size_toArray, hT.2.2.1]; exact Nat.le_refl _
          obtain ⟨r, hr⟩ : ∃ r : ByteArray, (⟨L.toArray⟩ : ByteArray) = r := ⟨_, rfl⟩
          rw [hr] at e0 e1 e2 hst
          have e3 : (b ++ r).size ≤ 600 := by rw [Sm.append_size]; omega
          have e4 : (b ++ r ++ c).size ≤ 1200 := by omega
          have hB := hT.2.2.2.2.1
          obtain ⟨n, hn⟩ : ∃ n, Sm.offs L 16 = n := ⟨_, rfl⟩
          rw [hn] at e1 hd ⊢
          have E1 := Lib.hid e1
          clear hT e1 hn hr
          by_cases h2 : n ≤ 2
          · have HF : Hid (Sm.Found (b ++ r ++ c) b.size b.size) := ⟨Nat.le_refl _, by omega, by rw [E1.out]; exact h2, fun j a c => by omega⟩
            clear e2
            go_wp2_with fail
            refine (find_found _ b.size _ b.size _ (by unfold maxLen; omega) rfl (by omega) HF).mono ?_; rintro e w5 ⟨rfl, hb5⟩
            go_wp2_with fail
            refine (distance_is _ b.size _ n _ (by omega) rfl (by omega) E1.out).mono ?_; rintro e w6 ⟨rfl, hb6⟩
            go_wp2_with fail
            go_ret
            exact ⟨ret_bool (by simp), bt (bt hB hb5) hb6⟩
          · rcases Sm.find_cases (b ++ r ++ c) _ b.size rfl with ⟨i, hq, hf⟩ | ⟨hq, hf⟩
            · have hne : i ≠ b.size := by
                intro e
                have h3 := hf.2.2.1
                rw [e, E1.out] at h3; exact h2 h3
              have h4 := hf.2.1
              have HF := Lib.hid hf
              clear hf hq e2
              go_wp2_with fail
              refine (find_found _ b.size _ i _ (by unfold maxLen; omega) rfl (by omega) HF).mono ?_; rintro e w5 ⟨rfl, hb5⟩
              go_wp2_with fail
              refine (distance_is _ b.size _ n _ (by omega) rfl (by omega) E1.out).mono ?_; rintro e w6 ⟨rfl, hb6⟩
              go_wp2_with fail
              go_ret
              exact ⟨ret_bool (by simp; rw [decide_eq_false (by omega), beq_eq_false_iff_ne]; omega), bt (bt hB hb5) hb6⟩
            · have HF := Lib.hid hf
              clear hf hq e2
              go_wp2_with fail
              refine (find_nowhere _ b.size _ _ (by unfold maxLen; omega) rfl (by omega) HF).mono ?_; rintro e w5 ⟨rfl, hb5⟩
              go_wp2_with fail
              refine (distance_is _ b.size _ n _ (by omega) rfl (by omega) E1.out).mono ?_; rintro e w6 ⟨rfl, hb6⟩
              go_wp2_with fail
              go_ret
              exact ⟨ret_bool (by simp [h2]), bt (bt hB hb5) hb6⟩
    · go_enter Try.func5, Try.ntmps5
      go_wp2_with (go_at_call 10; refine (alive_any _).mono ?_; rintro e w1 ⟨rfl, hb1⟩)
      go_ret
      exact ⟨rfl, ((Below.refl _ _).alloc (Nat.le_refl _) _).trans (hb1.mono (by simp))⟩
  · go_enter Try.func5, Try.ntmps5
    go_wp2_with (go_at_call 10; refine (alive_any _).mono ?_; rintro e w1 ⟨rfl, hb1⟩)
    go_ret
    exact ⟨rfl, ((Below.refl _ _).alloc (Nat.le_refl _) _).trans (hb1.mono (by simp))⟩
end Go.Proofs.Ytcklenkpalfjgaa
