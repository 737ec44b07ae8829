/-
  The walks of the laws' awake and words.
-/
import Derived.Test.YtjepedejclfnmaaEnc
namespace Go.Proofs.Ytjepedejclfnmaa
open Go.RowKit
set_option linter.unusedVariables false

theorem awake_any (w : World) : Calls Try.prog 17 #[] w fun e w' => e = .returned (.bool true) ∧ Below w.heap.size w w' := by
  go_enter Try.func17, Try.ntmps17
  go_wp2_with fail
  refine (gen_ok 2 (by omega) (by omega) _).mono ?_
  rintro e w1 ⟨g, cap, rfl, hg, hC, hc1, hc2, hB⟩
  have hC0 : Cells w1 g [2, 3, 1] := by rw [show genB 2 = [2, 3, 1] by decide +kernel] at hC; exact hC
  have HC := Lib.hid hC0
  have HB := Lib.hid hB
  clear hC hC0 hB
  go_wp2_with fail
  have he := enc_ok ⟨#[1]⟩ 2 (by omega) (by omega) (by decide) w1
  rw [show (encB (⟨#[1]⟩ : ByteArray).data.toList 2).toArray = #[1, 3, 2] by decide +kernel] at he
  refine he.mono ?_
  rintro e w2 ⟨rfl, hB2⟩
  have HB2 := Lib.hid (HB.out.trans (hB2.mono HB.out.size))
  have hst := run_str (P := Try.prog) w2 22 9 5 g 3 cap _ Try.underlying22 Try.underlying5 Try.underlying9 (HC.out.kept hB2) rfl
  clear he hB2
  go_wp2_with fail
  have hi := iscw_any ⟨#[1, 3, 2]⟩ 2 (by omega) (by decide) w2
  rw [show (decide ((1 : Int) ≤ 2) && isCw (⟨#[1, 3, 2]⟩ : ByteArray).data.toList (2 : Int).toNat) = true by decide +kernel] at hi
  refine hi.mono ?_
  rintro e w3 ⟨rfl, hB3⟩
  have HB3 := Lib.hid (HB2.out.trans (hB3.mono HB2.out.size))
  clear hB3 hi
  go_wp2
  go_ret
  exact ⟨rfl, HB3.out⟩
theorem enc_str (s X : ByteArray) (l : List UInt8) (p n : Nat) (hX : Hid (⟨(encB l p).toArray⟩ = X)) (hs : s.data.toList = l) (hl : Hid (l.length = n)) (h1 : 1 ≤ p) (h2 : p ≤ 64) (h3 : n + p ≤ 255) (w : World) :
    Calls Try.prog 13 #[.string s, .int .i64 p] w fun e w' => e = .returned (.tuple #[.string X, .int .i64 0]) ∧ Below w.heap.size w w' := by
  rw [← hX.out, ← hs]
  refine enc_ok s p h1 h2 ?_ w
  have := hl.out; rw [← hs] at this
  have e : s.data.toList.length = s.size := rfl
  omega
theorem enc_size {l : List UInt8} {p n : Nat} {X : ByteArray} (hX : (⟨(encB l p).toArray⟩ : ByteArray) = X) (hl : l.length = n) : X.size = n + p := by
  rw [← hX, ← hl, ← encB_len]; rfl
theorem ba_ext {a b : ByteArray} (h : a.data.toList = b.data.toList) : a = b := by
  apply ByteArray.ext; exact Array.ext' h
theorem str_ne {a b : ByteArray} (h : a ≠ b) : ¬ a.toList = b.toList := fun e => h (ba_ext (by rw [← ByteArray.toList_eq, ← ByteArray.toList_eq, e]))
theorem results_tmp4 {fn : Func} {t u v x : Tmp} (h : fn.results = #[.tmp t, .tmp u, .tmp v, .tmp x]) (tmps : Array Value) (P : Program) (w : World) :
    (results fn tmps).run P w = .ok (.tuple #[tmps.getD t undef, tmps.getD u undef, tmps.getD v undef, tmps.getD x undef]) w := by
  simp [results, h]
theorem take_extract (a : ByteArray) (n : Nat) : (a.extract 0 n).data.toList = a.data.toList.take n := by
  rw [ByteArray.data_extract]; simp
theorem take_whole (a : ByteArray) (n : Nat) (h : n = a.size) : a.data.toList = a.data.toList.take n := by
  rw [List.take_of_length_le]; rw [h]; exact Nat.le_refl _

set_option maxRecDepth 100000 in
set_option maxHeartbeats 1000000 in
theorem words_any (a b : ByteArray) (q : Nat) (ha : a.size ≤ maxLen) (hb : b.size ≤ maxLen) (hq : q < 256) (w : World) (p n : Nat) (hp : p = q % 64 + 1) (hn : n = min (min a.size b.size) (255 - p)) :
    Calls Try.prog 18 #[.string a, .string b, .int .u8 q] w fun e w' =>
      e = .returned (.tuple #[.string ⟨(encB (a.data.toList.take n) p).toArray⟩, .string ⟨(encB (b.data.toList.take n) p).toArray⟩, .int .i64 p, .bool true]) ∧ Below w.heap.size w w' := by
  have ha' : a.size ≤ 9223372036854775807 := ha
  have hb' : b.size ≤ 9223372036854775807 := hb
  clear ha hb
  have h1 : 1 ≤ p := by omega
  have h2 : p ≤ 64 := by omega
  have hla : (a.data.toList.take n).length = n := by rw [List.length_take]; show min n a.size = n; omega
  have hlb : (b.data.toList.take n).length = n := by rw [List.length_take]; show min n b.size = n; omega
  obtain ⟨X, hX⟩ : ∃ X : ByteArray, ⟨(encB (a.data.toList.take n) p).toArray⟩ = X := ⟨_, rfl⟩
  obtain ⟨Y, hY⟩ : ∃ Y : ByteArray, ⟨(encB (b.data.toList.take n) p).toArray⟩ = Y := ⟨_, rfl⟩
  have hXs := enc_size hX hla
  have hYs := enc_size hY hlb
  rw [hX, hY]
  have HX := Lib.hid hX
  have HY := Lib.hid hY
  have HLA := Lib.hid hla
  have HLB := Lib.hid hlb
  have e1 : IntKind.i64.wrap ((q : Int) % 64 + 1) = p := by rw [show (q : Int) % 64 + 1 = p by omega]; exact IntWalk.i64_in _ (by omega)
  have e5 : IntKind.i64.wrap (255 - (p : Int)) = 255 - p := IntWalk.i64_in _ (by omega)
  have h3 : n + p ≤ 255 := by omega
  have e2 : IntKind.i64.wrap ((n : Int) + p) = (n : Int) + p := IntWalk.i64_in _ (by omega)
  have e3 : ((X.size : Int) == (n : Int) + p) = true := by rw [hXs]; simp
  have e4 : ((Y.size : Int) == (n : Int) + p) = true := by rw [hYs]; simp
  clear hX hY hla hlb hXs hYs
  have c1 : (a.extract 0 n).data.toList = a.data.toList.take n := take_extract a n
  have c2 : (b.extract 0 n).data.toList = b.data.toList.take n := take_extract b n
  have c3 : n = a.size → a.data.toList = a.data.toList.take n := take_whole a n
  have c4 : n = b.size → b.data.toList = b.data.toList.take n := take_whole b n
  have C1 := Lib.hid c1
  have C2 := Lib.hid c2
  have C3 := Lib.hid c3
  have C4 := Lib.hid c4
  clear c1 c2 c3 c4
  have hcase : (n = a.size ∧ ¬ b.size < a.size ∧ (a.size : Int) ≤ 255 - p) ∨ (n = b.size ∧ b.size < a.size ∧ (b.size : Int) ≤ 255 - p) ∨ (n = 255 - p ∧ ¬ (a.size : Int) ≤ 255 - p ∧ ¬ (b.size : Int) ≤ 255 - p) := by omega
  clear hn hp
  have h255 : n = 255 - p → X.size = 255 ∧ Y.size = 255 := fun e => by
    have := e3; have := e4
    rw [beq_iff_eq] at *
    omega
  rcases hcase with ⟨d1, d2, d3⟩ | ⟨d1, d2, d3⟩ | ⟨d1, d2, d3⟩
  · subst d1
    have d4 : (a.size : Int) ≤ b.size := by omega
    clear h255
    go_enter Try.func18, Try.ntmps18
    go_wp2_with fail
    refine (enc_str a X _ p _ HX (C3.out (by trivial)) HLA h1 h2 h3 w).mono ?_
    rintro e w1 ⟨rfl, hB1⟩
    have HB1 := Lib.hid hB1
    clear hB1
    go_wp2_with fail
    refine (enc_str (b.extract 0 a.size) Y _ p _ HY C2.out HLB h1 h2 h3 w1).mono ?_
    rintro e w2 ⟨rfl, hB2⟩
    have HB2 := Lib.hid (bt HB1.out hB2)
    clear hB2
    go_wp2
    (try simp only [Exit.inBlock, Exit.then]); refine bodyPost_ret (results_tmp4 rfl _ _ _) rfl ?_
    exact ⟨rfl, HB2.out⟩
  · subst d1
    have d4 : (b.size : Int) ≤ a.size := by omega
    clear h255
    go_enter Try.func18, Try.ntmps18
    go_wp2_with fail
    refine (enc_str (a.extract 0 b.size) X _ p _ HX C1.out HLA h1 h2 h3 w).mono ?_
    rintro e w1 ⟨rfl, hB1⟩
    have HB1 := Lib.hid hB1
    clear hB1
    go_wp2_with fail
    refine (enc_str b Y _ p _ HY (C4.out (by trivial)) HLB h1 h2 h3 w1).mono ?_
    rintro e w2 ⟨rfl, hB2⟩
    have HB2 := Lib.hid (bt HB1.out hB2)
    clear hB2
    go_wp2
    (try simp only [Exit.inBlock, Exit.then]); refine bodyPost_ret (results_tmp4 rfl _ _ _) rfl ?_
    exact ⟨rfl, HB2.out⟩
  · subst d1
    obtain ⟨k1, k2⟩ := h255 rfl
    have d4 : (255 : Int) - p ≤ a.size := by omega
    have d5 : (255 : Int) - p ≤ b.size := by omega
    have d6 : (0 : Int) ≤ 255 - p := by omega
    have d7 : ((255 : Int) - p).toNat = 255 - p := by omega
    clear e2 e3 e4 h255
    go_enter Try.func18, Try.ntmps18
    go_wp2_with fail
    refine (enc_str (a.extract 0 (255 - p)) X _ p _ HX C1.out HLA h1 h2 h3 w).mono ?_
    rintro e w1 ⟨rfl, hB1⟩
    have HB1 := Lib.hid hB1
    clear hB1
    go_wp2_with fail
    refine (enc_str (b.extract 0 (255 - p)) Y _ p _ HY C2.out HLB h1 h2 h3 w1).mono ?_
    rintro e w2 ⟨rfl, hB2⟩
    have HB2 := Lib.hid (bt HB1.out hB2)
    clear hB2
    go_wp2
    (try simp only [Exit.inBlock, Exit.then]); refine bodyPost_ret (results_tmp4 rfl _ _ _) rfl ?_
    exact ⟨rfl, HB2.out⟩
end Go.Proofs.Ytjepedejclfnmaa
