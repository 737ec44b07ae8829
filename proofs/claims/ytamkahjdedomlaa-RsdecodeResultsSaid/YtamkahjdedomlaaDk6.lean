/-
  rsdecode.Decode at every input; the laws' change and alive.
-/
import Derived.Test.YtamkahjdedomlaaDk5
import Derived.Test.YtamkahjdedomlaaLaw
namespace Go.Proofs.Ytamkahjdedomlaa
open Go.RowKit
set_option linter.unusedVariables false

theorem decode_any (s : ByteArray) (W : List UInt8) (p : Int) (ev : Value) (zs : List Int) (w : World) (hW : s.data.toList = W) (hE : RdI w ev zs) (hzs : zs.length ≤ 100000) :
    Calls Try.prog 16 #[.string s, .int .i64 p, ev] w fun e w' => e = .returned (.tuple #[.string ⟨(decB W p zs).1.toArray⟩, .int .i64 (decB W p zs).2.1, .int .i64 (decB W p zs).2.2]) ∧ Below w.heap.size w w' := by
  have hl : W.length = s.size := by rw [← hW]; rfl
  by_cases hg : goodP W p
  · obtain ⟨h1, h2, h3, h4⟩ := hg
    obtain ⟨q, rfl⟩ : ∃ q : Nat, p = q := ⟨p.toNat, by omega⟩
    have e : decB W q zs = decOk W q (lostB zs) := by
      unfold decB; rw [if_pos ⟨h1, h2, h3, h4⟩, Int.toNat_natCast]
    rw [e]
    exact decode_ok s W s.size q ev zs w hW rfl (by omega) (by omega) (by omega) (by omega) hE hzs
  · have e : decB W p zs = ([], 0, 1) := by unfold decB; rw [if_neg hg]
    rw [e]
    by_cases h1 : p < 1 ∨ 64 < p
    · exact (decode_err s p 2 ev rfl w (fun w => syn_range s p h1 w)).mono fun e w' ⟨a, b⟩ => ⟨a, by rw [← b]; exact Below.refl _ _⟩
    · obtain ⟨q, rfl⟩ : ∃ q : Nat, p = q := ⟨p.toNat, by omega⟩
      by_cases h2 : s.size < q
      · exact (decode_err s q 4 ev rfl w (fun w => syn_short s q (by omega) (by omega) h2 w)).mono fun e w' ⟨a, b⟩ => ⟨a, by rw [← b]; exact Below.refl _ _⟩
      · have h3 : 255 < s.size := by
          by_cases c : 255 < s.size
          · exact c
          · exact absurd ⟨by omega, by omega, by omega, by omega⟩ hg
        exact (decode_err s q 6 ev rfl w (fun w => syn_long s q (by omega) (by omega) h3 w)).mono fun e w' ⟨a, b⟩ => ⟨a, by rw [← b]; exact Below.refl _ _⟩
theorem decode_r (s : ByteArray) (W : List UInt8) (p : Int) (ev : Value) (zs : List Int) (D : List UInt8 × Nat × Nat) (w : World) (hW : s.data.toList = W) (hE : RdI w ev zs) (hzs : zs.length ≤ 100000) (hD : Hid (decB W p zs = D)) :
    Calls Try.prog 16 #[.string s, .int .i64 p, ev] w fun e w' => e = .returned (.tuple #[.string ⟨D.1.toArray⟩, .int .i64 D.2.1, .int .i64 D.2.2]) ∧ Below w.heap.size w w' := by
  rw [← hD.out]; exact decode_any s W p ev zs w hW hE hzs

set_option maxRecDepth 100000 in
theorem change_any (s : ByteArray) (l : List UInt8) (n k : Nat) (b : UInt8) (w : World) (hs : s.data.toList = l) (hn : s.size = n) (hk : k < n) (hz : n ≤ 100000) :
    Calls Try.prog 21 #[.string s, .int .i64 k, .int .u8 b.toNat] w fun e w' => e = .returned (.string ⟨(l.set k (l[k]?.getD 0 ^^^ b)).toArray⟩) ∧ Below w.heap.size w w' := by
  have hl : l.length = n := by rw [← hs, ← hn]; rfl
  have HL := Lib.hid hl
  have HN := Lib.hid hn
  have HS := Lib.hid hs
  have hkn : (k : Int) < n := by omega
  obtain ⟨x, hx⟩ : ∃ x, l[k]?.getD 0 = x := ⟨_, rfl⟩
  obtain ⟨y, hy⟩ : ∃ y, x ^^^ b = y := ⟨_, rfl⟩
  have hxor := bxor x b
  rw [hy] at hxor
  rw [hx, hy]
  have HX := Lib.hid hx
  have HY := Lib.hid hy
  clear hl hn hs hx hy
  go_enter Try.func21, Try.ntmps21
  go_wp2_with (with_reducible refine wpList_bytes rfl _ _ _ 5 rfl Try.underlying9 Try.underlying33 Try.underlying5 s n HN.out rfl ?_; intro cap w8 hcap hC8 hb8 hz8; rw [HS.out] at hC8; have hco := hC8.at k (by rw [HL.out]; exact hk); rw [HX.out] at hco; have hfo := hC8.free k (by rw [HL.out]; exact hk); have hst := run_str (P := Try.prog) _ 33 9 5 w.heap.size n cap _ Try.underlying33 Try.underlying5 Try.underlying9 (hC8.set k (by rw [HL.out]; exact hk) y) (by rw [List.length_set]; exact HL.out); clear hC8)
  have HB9 : Hid (Below w.heap.size w (w8.setCell ⟨w.heap.size, k, none⟩ (.int .u8 (y.toNat : Int)))) := hb8.setCell (Nat.le_refl _) _
  go_ret
  exact ⟨rfl, HB9.out⟩
theorem change_r (s t : ByteArray) (l : List UInt8) (n k : Nat) (b : UInt8) (w : World) (hs : s.data.toList = l) (hn : s.size = n) (hk : k < n) (hz : n ≤ 100000) (ht : (⟨(l.set k (l[k]?.getD 0 ^^^ b)).toArray⟩ : ByteArray) = t) :
    Calls Try.prog 21 #[.string s, .int .i64 k, .int .u8 b.toNat] w fun e w' => e = .returned (.string t) ∧ Below w.heap.size w w' := by
  rw [← ht]; exact change_any s l n k b w hs hn hk hz

def aliveC : ByteArray := ⟨#[97, 114, 99, 104, 105, 118, 101, 206, 33, 200, 69]⟩
def aliveA1 : ByteArray := ⟨#[97, 117, 99, 104, 105, 118, 101, 206, 33, 200, 69]⟩
def aliveA : ByteArray := ⟨#[97, 117, 99, 104, 105, 118, 101, 206, 33, 0, 69]⟩
def aliveB1 : ByteArray := ⟨#[96, 114, 99, 104, 105, 118, 101, 206, 33, 200, 69]⟩
def aliveB : ByteArray := ⟨#[96, 114, 99, 109, 105, 118, 101, 206, 33, 200, 69]⟩
theorem alive_enc : (⟨(encB (⟨#[97, 114, 99, 104, 105, 118, 101]⟩ : ByteArray).data.toList 4).toArray⟩ : ByteArray) = aliveC := by
  rw [show (encB (⟨#[97, 114, 99, 104, 105, 118, 101]⟩ : ByteArray).data.toList 4).toArray = #[97, 114, 99, 104, 105, 118, 101, 206, 33, 200, 69] by decide +kernel]; rfl
theorem alive_a : decB aliveA.data.toList 4 [] = (aliveC.data.toList, 2, 0) := by
  unfold decB
  rw [if_pos (by decide +kernel), lost_id [] List.Pairwise.nil]
  decide +kernel
theorem alive_b : decB aliveB.data.toList 4 [3, 8] = (aliveC.data.toList, 2, 0) := by
  unfold decB
  rw [if_pos (by decide +kernel), lost_id [3, 8] (by simp)]
  decide +kernel
set_option maxRecDepth 100000 in
set_option maxHeartbeats 1000000 in
theorem alive_any (w : World) : Calls Try.prog 9 #[] w fun e w' => e = .returned (.bool true) ∧ Below w.heap.size w w' := by
  obtain ⟨C, hC⟩ : ∃ C, aliveC = C := ⟨_, rfl⟩
  have HC := Lib.hid hC
  have hsz : C.size = 11 := by rw [← hC]; rfl
  have hst : (C.toList == C.toList) = true := beq_self_eq_true _
  clear hC
  go_enter Try.func9, Try.ntmps9
  go_wp2_with fail
  have he := enc_ok ⟨#[97, 114, 99, 104, 105, 118, 101]⟩ 4 (by omega) (by omega) (by decide) w
  rw [alive_enc, HC.out] at he
  refine he.mono ?_
  rintro e w1 ⟨rfl, hb1⟩
  have HB1 := Lib.hid hb1
  clear he hb1
  go_wp2_with fail
  refine (change_r C aliveA1 aliveC.data.toList 11 1 7 _ (by rw [← HC.out]) hsz (by omega) (by omega) (by decide +kernel)).mono ?_
  rintro e w2 ⟨rfl, hb2⟩
  have HB2 := Lib.hid (bt HB1.out hb2)
  clear hb2
  go_wp2_with fail
  refine (change_r aliveA1 aliveA aliveA1.data.toList 11 9 200 _ rfl rfl (by omega) (by omega) (by decide +kernel)).mono ?_
  rintro e w3 ⟨rfl, hb3⟩
  have HB3 := Lib.hid (bt HB2.out hb3)
  clear hb3
  go_wp2_with fail
  have hd := decode_r aliveA aliveA.data.toList 4 (.slice none 0 0) [] (aliveC.data.toList, 2, 0) w3 rfl (Or.inl ⟨none, 0, rfl, rfl⟩) (by simp) alive_a
  rw [show (⟨(aliveC.data.toList, 2, 0).1.toArray⟩ : ByteArray) = C from HC.out] at hd
  refine hd.mono ?_
  rintro e w4 ⟨rfl, hb4⟩
  have HB4 := Lib.hid (bt HB3.out hb4)
  clear hb4 hd
  go_wp2_with fail
  refine (change_r C aliveB1 aliveC.data.toList 11 0 1 _ (by rw [← HC.out]) hsz (by omega) (by omega) (by decide +kernel)).mono ?_
  rintro e w5 ⟨rfl, hb5⟩
  have HB5 := Lib.hid (bt HB4.out hb5)
  clear hb5
  go_wp2_with fail
  refine (change_r aliveB1 aliveB aliveB1.data.toList 11 3 5 _ rfl rfl (by omega) (by omega) (by decide +kernel)).mono ?_
  rintro e w6 ⟨rfl, hb6⟩
  have HB6 := Lib.hid (bt HB5.out hb6)
  clear hb6
  go_wp2_with fail
  have hd := decode_r aliveB aliveB.data.toList 4 (.slice (some ⟨w6.heap.size, 0, none⟩) 2 2) [3, 8] (aliveC.data.toList, 2, 0) (w6.alloc (.cells #[.int .i64 3, .int .i64 8] 3)) rfl
    (Or.inr ⟨w6.heap.size, 0, 2, rfl, by simp, fun i hi => by rw [Nat.zero_add]; exact (cellsI_alloc w6 [3, 8] 3).at i hi⟩) (by simp) alive_b
  rw [show (⟨(aliveC.data.toList, 2, 0).1.toArray⟩ : ByteArray) = C from HC.out] at hd
  refine hd.mono ?_
  rintro e w7 ⟨rfl, hb7⟩
  have hz6 := HB6.out.size
  have HB7 := Lib.hid (HB6.out.trans (((Below.refl _ w6).alloc hz6 _).trans (hb7.mono (by simp; omega))))
  clear hb7 hd
  go_wp2
  go_ret
  exact ⟨rfl, HB7.out⟩
end Go.Proofs.Ytamkahjdedomlaa
