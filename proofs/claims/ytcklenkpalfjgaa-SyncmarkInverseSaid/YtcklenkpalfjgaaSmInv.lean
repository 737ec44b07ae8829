/-
  The walks of cells.Invert and of the law SyncmarkInverse.
-/
import Derived.Test.YtcklenkpalfjgaaSmTol
namespace Go.Proofs.Ytcklenkpalfjgaa
open Go.RowKit
set_option linter.unusedVariables false

namespace Sm
def inv (x : UInt8) : UInt8 := if x = 48 then 49 else if x = 49 then 48 else x
def invTo (l : List UInt8) (k : Nat) : List UInt8 := (l.take k).map inv ++ l.drop k
theorem invTo_len (l : List UInt8) (k : Nat) (hk : k ≤ l.length) : (invTo l k).length = l.length := by simp [invTo]; omega
theorem invTo_at (l : List UInt8) (k : Nat) (hk : k < l.length) : (invTo l k)[k]?.getD 0 = l[k]?.getD 0 := by
  unfold invTo
  rw [List.getElem?_append_right (by simp; omega)]
  simp only [List.length_map, List.length_take, List.getElem?_drop]
  congr 2; omega
theorem invTo_step (l : List UInt8) (k : Nat) (hk : k < l.length) : invTo l (k + 1) = (invTo l k).set k (inv (l[k]?.getD 0)) := by
  apply List.ext_getElem?
  intro i
  rw [List.getElem?_set]
  unfold invTo
  have e1 : (List.map inv (List.take k l)).length = k := by simp; omega
  have e2 : (List.map inv (List.take (k + 1) l)).length = k + 1 := by simp; omega
  by_cases h : i < k
  · rw [List.getElem?_append_left (by omega), List.getElem?_append_left (by omega), if_neg (by omega)]
    simp only [List.getElem?_map, List.getElem?_take]
    rw [if_pos (by omega), if_pos h]
  · by_cases h' : i = k
    · subst h'
      rw [if_pos rfl, List.getElem?_append_left (by omega), if_pos (by simp; omega)]
      simp only [List.getElem?_map, List.getElem?_take]
      rw [if_pos (by omega), List.getElem?_eq_getElem hk]; rfl
    · rw [if_neg (by omega), List.getElem?_append_right (by omega), List.getElem?_append_right (by omega), e1, e2]
      simp only [List.getElem?_drop]
      congr 1; omega
theorem invTo_same (l : List UInt8) (k : Nat) (hk : k < l.length) (h : inv (l[k]?.getD 0) = l[k]?.getD 0) : invTo l (k + 1) = invTo l k := by
  rw [invTo_step l k hk, h, ← invTo_at l k hk]
  apply List.ext_getElem?
  intro i
  rw [List.getElem?_set]
  split
  · rename_i e; subst e
    rw [if_pos (by rw [invTo_len l k (by omega)]; exact hk), List.getElem?_eq_getElem (by rw [invTo_len l k (by omega)]; exact hk)]; rfl
  · rfl
theorem invTo_all (l : List UInt8) : invTo l l.length = l.map inv := by simp [invTo]

theorem mid_cell (b p a : ByteArray) (j : Nat) (hj : j < p.size) : cellAt (b ++ p ++ a) ((b.size + j : Nat) : Int) = cellAt p j := by
  rw [cellAt_left _ _ _ (by rw [append_size]; omega), cellAt_right]
theorem plain_mid (b a : ByteArray) : isPlain (b ++ plainB ++ a) (b.size : Nat) = true := by
  unfold isPlain
  rw [plainTo_iff]
  exact fun i hi => mid_cell b plainB a i hi
theorem dist_plain : dist plainB (0 : Nat) = 16 := by decide +kernel
theorem dist_mid_plain (b a : ByteArray) : dist (b ++ plainB ++ a) (b.size : Nat) = 16 := by
  have h := dist_mid b plainB a 0 (by decide)
  rw [Nat.add_zero] at h
  rw [h]; exact dist_plain
theorem cell_mk (L : List UInt8) (k : Nat) : cellAt ⟨L.toArray⟩ (k : Int) = ((L[k]?.getD 0).toNat : Int) := by rw [cellAt_ofNat]; simp
theorem bad_plain (b a : ByteArray) (k : Nat) (hk : k < 16) (c x : UInt8) (hx : x = plainB.data[k]?.getD 0) :
    isPlain ⟨((b ++ plainB ++ a).data.toList.set (b.size + k) c).toArray⟩ (b.size : Nat) = (((c.toNat : Nat) : Int) == ((x.toNat : Nat) : Int)) := by
  have hlen : (b ++ plainB ++ a).data.toList.length = b.size + 16 + a.size := by
    rw [Array.length_toList, data_size, append_size, append_size]; rfl
  have hmid : ∀ j, j < 16 → (b ++ plainB ++ a).data.toList[b.size + j]?.getD 0 = plainB.data[j]?.getD 0 := by
    intro j hj
    have := mid_cell b plainB a j hj
    rw [cellAt_ofNat, cellAt_ofNat] at this
    rw [Array.getElem?_toList]
    exact UInt8.toNat_inj.1 (by omega)
  rw [Bool.eq_iff_iff, beq_iff_eq]
  unfold isPlain
  rw [plainTo_iff]
  constructor
  · intro h
    have := h k hk
    rw [show (b.size : Int) + (k : Int) = ((b.size + k : Nat) : Int) by omega, cell_mk, List.getElem?_set_self (by omega), cellAt_ofNat] at this
    rw [hx]; exact this
  · intro h i hi
    rw [show (b.size : Int) + (i : Int) = ((b.size + i : Nat) : Int) by omega, cell_mk, cellAt_ofNat]
    by_cases e : i = k
    · subst e
      rw [List.getElem?_set_self (by omega), ← hx]; exact h
    · rw [List.getElem?_set_ne (by omega), hmid i hi]
theorem strip_at (b a : ByteArray) (k : Nat) (hk : k < 16) (h : b.size + k < (b ++ plainB ++ a).size) : (b ++ plainB ++ a)[b.size + k] = plainB.data[k]?.getD 0 := by
  have := mid_cell b plainB a k hk
  rw [cellAt_nat _ _ h, cellAt_ofNat] at this
  exact UInt8.toNat_inj.1 (by omega)
end Sm

theorem ret_str {a b : ByteArray} (h : a = b) : Ending.returned (.string a) = .returned (.string b) := by rw [h]
theorem quiet_same {P : Program} {f : FuncId} {args : Array Value} {w : World} {n : Nat} {v : Value}
    (h : Calls P f args (w.drewN n) fun e w' => e = .returned v ∧ w.drewN n = w') : Calls P f args (w.drewN n) fun e w'' => e = .returned v ∧ ∃ m, w'' = w.drewN m :=
  h.mono fun _ _ ⟨he, hm⟩ => ⟨he, n, hm.symm⟩

set_option maxHeartbeats 1000000 in
theorem invert_any (s : ByteArray) (w : World) (hs : s.size ≤ maxLen) :
    Calls Try.prog 21 #[.string s] w fun e w' => e = .returned (.string ⟨(s.data.toList.map Sm.inv).toArray⟩) ∧ Below w.heap.size w w' := by
  unfold maxLen at hs
  go_enter Try.func21, Try.ntmps21
  go_wp2_with (with_reducible refine wpList_bytes rfl _ _ _ 5 rfl Try.underlying9 Try.underlying29 Try.underlying5 s s.size rfl rfl ?_; intro cap w3 hcap hm hb3 hz3)
  obtain ⟨l, hl⟩ : ∃ l, s.data.toList = l := ⟨_, rfl⟩
  rw [hl] at hm
  have HL : Hid (l.length = s.size) := by rw [← hl]; rfl
  have HLL := Lib.hid hl
  have hm0 : Cells w3 w.heap.size (Sm.invTo l 0) := by simpa [Sm.invTo] using hm
  clear hl hm
  go_loopw [10] (fun i wr => ∃ k : Nat, k ≤ s.size ∧ i = .int .i64 k ∧ Cells wr w.heap.size (Sm.invTo l k) ∧ Below w.heap.size w wr) (fun i _ => s.size - (intOf i).toNat)
  case atStart => exact ⟨0, Nat.zero_le _, rfl, hm0, hb3⟩
  case round =>
    obtain ⟨k, hk, rfl, hC, hB⟩ := hrel
    by_cases hlt : k < s.size
    · have hkl : k < l.length := by rw [HL.out]; exact hlt
      have hkI : k < (Sm.invTo l k).length := by rw [Sm.invTo_len l k (by omega)]; exact hkl
      have hc := hC.at k hkI
      have hf := hC.free k hkI
      rw [Sm.invTo_at l k hkl] at hc
      have HS := Lib.hid (Sm.invTo_step l k hkl)
      have HC := Lib.hid hC
      obtain ⟨x, hx⟩ : ∃ x, l[k]?.getD 0 = x := ⟨_, rfl⟩
      have hxb := x.toNat_lt
      rw [hx] at hc
      have HX := Lib.hid hx
      clear hx hC
      by_cases h1 : x = 48
      · subst h1
        go_wp2
        go_roundw
        case rel => exact ⟨k + 1, by omega, by go_num, by rw [HS.out, HX.out]; exact HC.out.set k hkI 49, hB.setCell (Nat.le_refl _) _⟩
        case measure => simp [intOf]; omega
      · by_cases h2 : x = 49
        · subst h2
          go_wp2
          go_roundw
          case rel => exact ⟨k + 1, by omega, by go_num, by rw [HS.out, HX.out]; exact HC.out.set k hkI 48, hB.setCell (Nat.le_refl _) _⟩
          case measure => simp [intOf]; omega
        · have h1' := u8_ne x 48 48 rfl h1
          have h2' := u8_ne x 49 49 rfl h2
          have h3 : Sm.inv x = x := by unfold Sm.inv; rw [if_neg h1, if_neg h2]
          have HS2 : Hid (Sm.invTo l (k + 1) = Sm.invTo l k) := Sm.invTo_same l k hkl (by rw [HX.out]; exact h3)
          clear h3
          go_wp2
          go_roundw
          case rel => exact ⟨k + 1, by omega, by go_num, by rw [HS2.out]; exact HC.out, hB⟩
          case measure => simp [intOf]; omega
    · obtain rfl : k = s.size := by omega
      have hst := run_str (P := Try.prog) wr 29 9 5 w.heap.size s.size cap _ Try.underlying29 Try.underlying5 Try.underlying9 hC (by rw [Sm.invTo_len l _ (by rw [HL.out]; exact Nat.le_refl _)]; exact HL.out)
      rw [← HL.out, Sm.invTo_all, ← HLL.out] at hst
      rw [HLL.out, HL.out] at hst
      go_wp2
      go_ret
      exact ⟨ret_str (by rw [HLL.out]), hB⟩

theorem invert_mark (w : World) : Calls Try.prog 21 #[.string Sm.markB] w fun e w' => e = .returned (.string Sm.plainB) ∧ Below w.heap.size w w' := by
  have h : (⟨(Sm.markB.data.toList.map Sm.inv).toArray⟩ : ByteArray) = Sm.plainB := by decide +kernel
  have := invert_any Sm.markB w (by decide +kernel)
  rwa [h] at this
theorem isplain_is (s : ByteArray) (k : Nat) (a : Int) (b : Bool) (w : World) (hs : s.size ≤ 100000) (ha : a = k) (hk : k ≤ 100000) (h : Hid (Sm.isPlain s k = b)) :
    Calls Try.prog 16 #[.string s, .int .i64 a] w fun e w' => e = .returned (.bool b) ∧ w = w' := by
  subst ha; rw [← h.out]; exact isplain_any s k w (by unfold maxLen; omega) (by omega) (by omega)
theorem distance_same (s : ByteArray) (k : Nat) (a : Int) (d : Int) (w : World) (hs : s.size ≤ 100000) (ha : a = k) (hk : k ≤ 100000) (h : Hid (Sm.dist s k = d)) :
    Calls Try.prog 13 #[.string s, .int .i64 a] w fun e w' => e = .returned (.int .i64 d) ∧ ∃ n, w' = w.drewN n := by
  subst ha; rw [← h.out]; exact distance_any s k w (by unfold maxLen; omega) (by omega) (by omega)

set_option maxHeartbeats 1000000 in
theorem syncmarkInverse.walk (b : ByteArray) (w0 : b.size ≤ maxLen) (a : ByteArray) (w1 : a.size ≤ maxLen) (x : Int) (w2 : (Lit.int .u8 x).wf = true) (y : Int) (w3 : (Lit.int .u8 y).wf = true) (w : World) :
    Calls Try.prog 9 #[.string b, .string a, .int .u8 x, .int .u8 y] w fun e w' => e = .returned (.bool true) ∧ Below w.heap.size w w' := by
  have wb := bounds_u8 w2
  have wc := bounds_u8 w3
  clear w2 w3
  obtain ⟨k0, rfl⟩ : ∃ k : Nat, x = k := ⟨x.toNat, by omega⟩
  obtain ⟨c, rfl⟩ : ∃ c : UInt8, y = (c.toNat : Int) := ⟨UInt8.ofNat y.toNat, by rw [UInt8.toNat_ofNat']; omega⟩
  obtain ⟨k, hk⟩ : ∃ k, k0 % 16 = k := ⟨_, rfl⟩
  have hk16 : k < 16 := by omega
  have hki : (k0 : Int) % 16 = (k : Int) := by omega
  clear hk
  unfold maxLen at w0 w1
  by_cases hz : b.size ≤ 500
  · by_cases hy : a.size ≤ 500
    · have es : (b ++ Sm.plainB ++ a).size = b.size + 16 + a.size := by rw [Sm.append_size, Sm.append_size]; rfl
      have e1 : (b ++ Sm.plainB).size ≤ 600 := by rw [Sm.append_size, show Sm.plainB.size = 16 from rfl]; omega
      have hps : Sm.plainB.size ≤ 16 := by decide
      have hpt : ((Sm.plainB.size : Int) != 16) = false := by decide
      have HP := Lib.hid (Sm.plain_mid b a)
      have HD := Lib.hid (Sm.dist_mid_plain b a)
      obtain ⟨px, hpx⟩ : ∃ px, Sm.plainB.data[k]?.getD 0 = px := ⟨_, rfl⟩
      have HB := Lib.hid (Sm.bad_plain b a k hk16 c px hpx.symm)
      have hat := Sm.strip_at b a k hk16 (by omega)
      rw [hpx] at hat
      clear hpx
      obtain ⟨s, hs⟩ : ∃ s, b ++ Sm.plainB ++ a = s := ⟨_, rfl⟩
      have hat2 : ∀ h : b.size + k < s.size, s[b.size + k]'h = px := by subst hs; exact fun _ => hat
      clear hat
      rw [hs] at es HP HD HB
      have e2 : b.size + 16 ≤ s.size := by omega
      have e3 : s.size ≤ 2000 := by omega
      have hlt : b.size + k < s.size := by omega
      have hat := hat2 hlt
      have hex : (s.extract 0 (b.size + 15)).size = b.size + 15 := by rw [ByteArray.size_extract]; omega
      have HN : Hid (Sm.isPlain (s.extract 0 (b.size + 15)) (b.size : Nat) = false) := Sm.isPlain_far _ _ (by omega)
      have hex' : (s.extract 0 (b.size + 15)).size ≤ 100000 := by omega
      have hsl : Hid (s.data.toList.length = s.size) := rfl
      clear es hat2 hex
      go_enter Try.func9, Try.ntmps9
      go_wp2_with fail
      refine (alive_any _).mono ?_; rintro e w2 ⟨rfl, hb1⟩
      go_wp2_with fail
      refine (plain_any _).mono ?_; rintro e w2 ⟨rfl, rfl⟩
      go_wp2_with fail
      refine (mark_any _).mono ?_; rintro e w2 ⟨rfl, rfl⟩
      go_wp2_with fail
      refine (invert_mark _).mono ?_; rintro e w4 ⟨rfl, hb2⟩
      go_wp2_with (with_reducible refine wpList_bytes rfl _ _ _ 5 rfl Try.underlying9 Try.underlying29 Try.underlying5 s s.size rfl rfl ?_; intro cap w5 hcap hm hb5 hz5; have hc1 := hm.free (b.size + k) (by rw [hsl.out]; exact hlt); have hc2 := hm.at (b.size + k) (by rw [hsl.out]; exact hlt); have HM := Lib.hid hm; clear hm)
      obtain ⟨bad, hbad⟩ : ∃ bad : ByteArray, (⟨(s.data.toList.set (b.size + k) c).toArray⟩ : ByteArray) = bad := ⟨_, rfl⟩
      have hbs : bad.size ≤ 2000 := by
        rw [← hbad]; show (List.toArray _).size ≤ 2000
        rw [List.size_toArray, List.length_set, hsl.out]; omega
      have HM2 := HM.out.set (b.size + k) (by rw [hsl.out]; exact hlt) c
      have hst := fun n => run_str (P := Try.prog) ((w5.setCell ⟨w4.heap.size, b.size + k, none⟩ (.int .u8 (c.toNat : Int))).drewN n) 29 9 5 w4.heap.size s.size cap _ Try.underlying29 Try.underlying5 Try.underlying9 (HM2.drewN n) (by rw [List.length_set, hsl.out])
      rw [hbad] at hst HB
      have hB : Below w.heap.size w (w5.setCell ⟨w4.heap.size, b.size + k, none⟩ (.int .u8 (c.toNat : Int))) := (bt (bt hb1 hb2) hb5).setCell (Nat.le_trans hb1.size hb2.size) _
      have HBB := Lib.hid hB
      clear HM2 hbad HM hB hb1 hb2 hb5
      have hat' : ((s[b.size + k].toNat : Int)) = (px.toNat : Int) := by rw [hat]
      have hbi : (b.size : Int) + (k : Int) < (s.size : Int) := by omega
      have h0 : ((b.size : Int) + (k : Int)).toNat = b.size + k := by omega
      have h1 : 0 ≤ (b.size : Int) + (k : Int) := by omega
      go_quiet ((first
        | (go_at_call 16; first | (with_reducible exact quiet_same (isplain_is s b.size _ true _ (by omega) rfl (by omega) HP)) | (with_reducible exact quiet_same (isplain_is bad b.size _ _ _ (by omega) rfl (by omega) HB)) | (with_reducible exact quiet_same (isplain_is (s.extract 0 (b.size + 15)) b.size _ false _ hex' rfl (by omega) HN)))
        | (go_at_call 13; exact Calls.quiet_of (distance_same s b.size _ 16 _ (by omega) rfl (by omega) HD))))
      go_wp2
      go_ret
      exact ⟨ret_bool (by simp), below_drewN HBB.out _⟩
    · go_enter Try.func9, Try.ntmps9
      go_wp2_with (go_at_call 10; refine (alive_any _).mono ?_; rintro e w1 ⟨rfl, hb1⟩)
      go_ret
      exact ⟨rfl, hb1⟩
  · go_enter Try.func9, Try.ntmps9
    go_wp2_with (go_at_call 10; refine (alive_any _).mono ?_; rintro e w1 ⟨rfl, hb1⟩)
    go_ret
    exact ⟨rfl, hb1⟩
end Go.Proofs.Ytcklenkpalfjgaa
