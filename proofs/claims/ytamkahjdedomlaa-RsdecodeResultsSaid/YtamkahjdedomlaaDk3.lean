/-
  The walks of gfpoly.Derivative, rsdecode.Radius and rsdecode.Locate.
-/
import Derived.Test.YtamkahjdedomlaaDk2
import Derived.Test.YtamkahjdedomlaaInts
import Derived.Test.YtamkahjdedomlaaCwPlain
namespace Go.Proofs.Ytamkahjdedomlaa
open Go.RowKit
set_option linter.unusedVariables false

/-- The first terms of the derivative: of the coefficients 1 .. j - 1. -/
def derL (p : List UInt8) : Nat → List UInt8
  | 0 => []
  | 1 => []
  | j + 2 => derL p (j + 1) ++ [if (j + 1) % 2 = 1 then p[j + 1]?.getD 0 else 0]
theorem derL_succ (p : List UInt8) (j : Nat) (h : 1 ≤ j) : derL p (j + 1) = derL p j ++ [if j % 2 = 1 then p[j]?.getD 0 else 0] := by
  obtain ⟨k, rfl⟩ : ∃ k, j = k + 1 := ⟨j - 1, by omega⟩
  rfl
theorem derL_len (p : List UInt8) (j : Nat) : (derL p j).length = j - 1 := by
  induction j with
  | zero => rfl
  | succ j ih =>
    by_cases h : 1 ≤ j
    · rw [derL_succ p j h, List.length_append, ih]; simp; omega
    · obtain rfl : j = 0 := by omega
      rfl
def pderiv (p : List UInt8) : List UInt8 := trim (derL p p.length)
theorem co_derL (p : List UInt8) (j n : Nat) (h : n + 1 < j) : co (derL p j) n = if n % 2 = 0 then co p (n + 1) else 0 := by
  induction j with
  | zero => omega
  | succ j ih =>
    rw [derL_succ p j (by omega)]
    by_cases e : n + 1 < j
    · rw [co_append_left _ _ _ (by rw [derL_len]; omega), ih e]
    · obtain rfl : j = n + 1 := by omega
      have h2 : ∀ x, co (derL p (n + 1) ++ [x]) n = co [x] 0 := by
        intro x
        have := co_append_right (derL p (n + 1)) [x] 0
        rwa [derL_len, show n + 1 - 1 + 0 = n by omega] at this
      rw [h2]
      by_cases c : n % 2 = 0
      · rw [if_pos c, if_pos (by omega)]; rfl
      · rw [if_neg c, if_neg (by omega)]; rfl
theorem co_pderiv (p : List UInt8) (n : Nat) : co (pderiv p) n = if n % 2 = 0 then co p (n + 1) else 0 := by
  unfold pderiv
  rw [co_trim]
  by_cases h : n + 1 < p.length
  · exact co_derL p _ n h
  · rw [co_out _ _ (by rw [derL_len]; omega), co_out p _ (by omega)]; split <;> rfl
theorem trim_le (l : List UInt8) : (trim l).length ≤ l.length := by rw [trim_len]; exact trimN_le _ _

set_option maxRecDepth 100000 in
set_option maxHeartbeats 1000000 in
theorem deriv_any (g c n : Nat) (p : List UInt8) (w : World) (hp : Cells w g p) (hn : p.length = n) (h1 : 1 ≤ n) (hz : n ≤ 1000) :
    Calls Try.prog 29 #[.slice (some ⟨g, 0, none⟩) n c] w fun e w' => ∃ v', e = .returned v' ∧ Sl w' w.heap.size v' (pderiv p) ∧ Below w.heap.size w w' := by
  have HP := Lib.hid hp
  have HN := Lib.hid hn
  have hg := hp.1
  clear hp hn
  go_enter Try.func29, Try.ntmps29
  go_wp2
  go_loopw [3, 4] (fun v i wr => ∃ j : Nat, 1 ≤ j ∧ j ≤ n ∧ i = .int .i64 j ∧ Hid (wr.ownsRow w.heap.size 5 1 v (derL p j).length ((derL p j).map u8v)) ∧ Below w.heap.size w wr) (fun _ i _ => n - (intOf i).toNat)
  case atStart => exact ⟨1, Nat.le_refl _, h1, rfl, World.ownsRow_nil _ _ _ _, Below.refl _ _⟩
  case round =>
    obtain ⟨j, hj1, hj, rfl, HO, hB⟩ := hrel
    by_cases hlt : j < n
    · have hco := (HP.out.kept hB).at j (by rw [HN.out]; exact hlt)
      have hbz := hB.size
      have HB := Lib.hid hB
      clear hB
      obtain ⟨x, hx⟩ : ∃ x, p[j]?.getD 0 = x := ⟨_, rfl⟩
      rw [hx] at hco
      have HX := Lib.hid hx
      clear hx
      have HS := Lib.hid (derL_succ p j hj1)
      have HL := Lib.hid (derL_len p j)
      by_cases hodd : j % 2 = 1
      · have ho : ((j : Int) % 2 == 1) = true := by rw [beq_iff_eq]; omega
        clear hodd
        go_wp2_with (at_builtin; refine wpList_append_bytes rfl _ _ 33 5 rfl Try.underlying33 Try.infoU8 w.heap.size _ _ rfl (HO.out.alloc _) ?h1 wr.heap.size 1 1 [x] rfl rfl (cells_one _ x _) ?h2 ?_)
        case h1 => simp; omega
        case h2 => have := HL.out; simp; omega
        intro v' w' hown hgr
        have hb' : Below w.heap.size w w' := HB.out.trans (((Below.refl _ wr).alloc hbz _).trans (below_grown (HO.out.alloc _) hgr (by simp; omega) (Nat.le_refl _)))
        have HO' : Hid (w'.ownsRow w.heap.size 5 1 v' (derL p (j + 1)).length ((derL p (j + 1)).map u8v)) := by
          rw [HS.out, if_pos (by have := beq_iff_eq.1 ho; omega), HX.out]; unfold Hid; rw [List.length_append, List.map_append]; exact hown
        clear hown hgr
        go_wp2
        go_roundw
        case rel => exact ⟨j + 1, by omega, by omega, by go_num, HO', hb'⟩
        case measure => simp [intOf] <;> omega
      · have ho : ((j : Int) % 2 == 1) = false := by rw [beq_eq_false_iff_ne]; omega
        clear hodd
        go_wp2_with (at_builtin; refine wpList_append_bytes rfl _ _ 33 5 rfl Try.underlying33 Try.infoU8 w.heap.size _ _ rfl (HO.out.alloc _) ?h1 wr.heap.size 1 1 [0] rfl rfl (cells_one _ 0 _) ?h2 ?_)
        case h1 => simp; omega
        case h2 => have := HL.out; simp; omega
        intro v' w' hown hgr
        have hb' : Below w.heap.size w w' := HB.out.trans (((Below.refl _ wr).alloc hbz _).trans (below_grown (HO.out.alloc _) hgr (by simp; omega) (Nat.le_refl _)))
        have HO' : Hid (w'.ownsRow w.heap.size 5 1 v' (derL p (j + 1)).length ((derL p (j + 1)).map u8v)) := by
          rw [HS.out, if_neg (by have := beq_eq_false_iff_ne.1 ho; omega)]; unfold Hid; rw [List.length_append, List.map_append]; exact hown
        clear hown hgr
        go_wp2
        go_roundw
        case rel => exact ⟨j + 1, by omega, by omega, by go_num, HO', hb'⟩
        case measure => simp [intOf] <;> omega
    · obtain rfl : j = n := by omega
      have HL := Lib.hid (derL_len p j)
      go_wp2_with fail
      refine (trim_any _ (derL p j) _ ((sl_of_owns HO.out).mono (Nat.zero_le _)) (by rw [HL.out]; omega)).mono ?_
      rintro e w' ⟨v', rfl, hs, hb⟩
      go_wp2
      go_ret
      exact ⟨_, rfl, by unfold pderiv; rw [HN.out]; exact hs.mono hB.size, bt hB hb⟩

/-! Radius. -/
def radB (p e s : Int) : Bool := decide (1 ≤ p ∧ p ≤ 64 ∧ 0 ≤ e ∧ 0 ≤ s ∧ s ≤ p ∧ 2 * e + s ≤ p)
theorem radius_any (p e s : Int) (w : World) (h1 : -9223372036854775808 ≤ p) (h2 : p ≤ 9223372036854775807) (h3 : -9223372036854775808 ≤ e) (h4 : e ≤ 9223372036854775807) (h5 : -9223372036854775808 ≤ s) (h6 : s ≤ 9223372036854775807) :
    Calls Try.prog 13 #[.int .i64 p, .int .i64 e, .int .i64 s] w fun r w' => r = .returned (.bool (radB p e s)) ∧ w = w' := by
  by_cases a1 : 1 ≤ p
  · by_cases a2 : p ≤ 64
    · by_cases a3 : 0 ≤ e
      · by_cases a4 : 0 ≤ s
        · by_cases a5 : s ≤ p
          · have hr : radB p e s = decide (e ≤ (p - s) / 2) := by
              unfold radB; rw [decide_eq_decide]; omega
            rw [hr]
            go_enter Try.func13, Try.ntmps13
            go_wp2
            all_goals (go_ret; first | exact ⟨rfl, rfl⟩ | exact ⟨ret_bool (by first | (rw [decide_eq_true (by omega)]) | (rw [decide_eq_false (by omega)])), rfl⟩)
          · have hr : radB p e s = false := by unfold radB; exact decide_eq_false (by omega)
            rw [hr]
            go_enter Try.func13, Try.ntmps13
            go_wp2
            go_ret
            exact ⟨rfl, rfl⟩
        · have hr : radB p e s = false := by unfold radB; exact decide_eq_false (by omega)
          rw [hr]
          go_enter Try.func13, Try.ntmps13
          go_wp2
          go_ret
          exact ⟨rfl, rfl⟩
      · have hr : radB p e s = false := by unfold radB; exact decide_eq_false (by omega)
        rw [hr]
        go_enter Try.func13, Try.ntmps13
        go_wp2
        go_ret
        exact ⟨rfl, rfl⟩
    · have hr : radB p e s = false := by unfold radB; exact decide_eq_false (by omega)
      rw [hr]
      go_enter Try.func13, Try.ntmps13
      go_wp2
      go_ret
      exact ⟨rfl, rfl⟩
  · have hr : radB p e s = false := by unfold radB; exact decide_eq_false (by omega)
    rw [hr]
    go_enter Try.func13, Try.ntmps13
    go_wp2
    go_ret
    exact ⟨rfl, rfl⟩

/-! Locate. -/
/-- The places below k at which two words differ. -/
def difN (a b : List UInt8) : Nat → List Nat
  | 0 => []
  | k + 1 => if a[k]?.getD 0 = b[k]?.getD 0 then difN a b k else difN a b k ++ [k]
theorem difN_len (a b : List UInt8) (k : Nat) : (difN a b k).length ≤ k := by
  induction k with
  | zero => exact Nat.le_refl _
  | succ k ih =>
    simp only [difN]
    split
    · omega
    · rw [List.length_append, List.length_singleton]; omega
theorem difN_filter (a b : List UInt8) (k : Nat) : difN a b k = (List.range k).filter fun i => a[i]?.getD 0 != b[i]?.getD 0 := by
  induction k with
  | zero => rfl
  | succ k ih =>
    simp only [difN]
    rw [List.range_succ, List.filter_append, ← ih]
    by_cases h : a[k]?.getD 0 = b[k]?.getD 0
    · rw [if_pos h, List.filter_cons_of_neg (by simpa using h)]; simp
    · rw [if_neg h, List.filter_cons_of_pos (by simpa using h)]; simp
theorem difN_diffs (a b : List UInt8) : difN a b a.length = diffs a b := difN_filter a b _
def natI (l : List Nat) : List Int := l.map fun (k : Nat) => (k : Int)

theorem locate_bad (a b : ByteArray) (h : a.size ≠ b.size) (w : World) : Calls Try.prog 10 #[.string a, .string b] w fun e w' => e = .returned (.tuple #[.slice none 0 0, .int .i64 1]) ∧ w = w' := by
  have hne : ((a.size : Int) == (b.size : Int)) = false := by rw [beq_eq_false_iff_ne]; omega
  have hne' : ((a.size : Int) != (b.size : Int)) = true := by rw [bne, hne]; rfl
  go_enter Try.func10, Try.ntmps10
  go_wp2
  go_ret2
  exact ⟨rfl, rfl⟩
set_option maxRecDepth 100000 in
set_option maxHeartbeats 1000000 in
theorem locate_any (a b : ByteArray) (n : Nat) (ha : a.size = n) (hb : b.size = n) (hz : n ≤ 1000) (w : World) :
    Calls Try.prog 10 #[.string a, .string b] w fun e w' => ∃ v', e = .returned (.tuple #[v', .int .i64 0]) ∧ SlI w' w.heap.size v' (natI (diffs a.data.toList b.data.toList)) ∧ Below w.heap.size w w' := by
  obtain ⟨l, hl⟩ : ∃ l, a.data.toList = l := ⟨_, rfl⟩
  obtain ⟨m, hm⟩ : ∃ m, b.data.toList = m := ⟨_, rfl⟩
  have hll : l.length = n := by rw [← hl, ← ha]; rfl
  have HA : Hid (∀ k (h : k < a.size), a[k] = l[k]?.getD 0) := by
    intro k h
    rw [← hl, Array.getElem?_toList, Array.getElem?_eq_getElem (by exact h)]; rfl
  have HB : Hid (∀ k (h : k < b.size), b[k] = m[k]?.getD 0) := by
    intro k h
    rw [← hm, Array.getElem?_toList, Array.getElem?_eq_getElem (by exact h)]; rfl
  rw [hl, hm]
  have HD : Hid (difN l m n = diffs l m) := by rw [← hll]; exact difN_diffs l m
  have h1 : ((a.size : Int) == (b.size : Int)) = true := by rw [beq_iff_eq]; omega
  have h2 : ((a.size : Int) != (b.size : Int)) = false := by rw [bne, h1]; rfl
  have hza : a.size ≤ 1000 := by omega
  have HLN := Lib.hid ha
  have HLM := Lib.hid hb
  clear hl hm hll ha hb
  go_enter Try.func10, Try.ntmps10
  go_wp2
  go_loopw [6, 15] (fun v i wr => ∃ k : Nat, k ≤ a.size ∧ i = .int .i64 k ∧ Hid (wr.ownsRow w.heap.size 3 1 v (difN l m k).length ((natI (difN l m k)).map i64v)) ∧ Below w.heap.size w wr) (fun _ i _ => a.size - (intOf i).toNat)
  case atStart => exact ⟨0, Nat.zero_le _, rfl, World.ownsRow_nil _ _ _ _, Below.refl _ _⟩
  case round =>
    obtain ⟨k, hk, rfl, HO, hB⟩ := hrel
    by_cases hlt : k < a.size
    · have hltb : k < b.size := by rw [HLM.out, ← HLN.out]; exact hlt
      have hsa := HA.out k hlt
      have hsb := HB.out k hltb
      have hbz := hB.size
      have HBW := Lib.hid hB
      clear hB
      have HS : Hid (difN l m (k + 1) = if l[k]?.getD 0 = m[k]?.getD 0 then difN l m k else difN l m k ++ [k]) := rfl
      obtain ⟨x, hx⟩ : ∃ x, l[k]?.getD 0 = x := ⟨_, rfl⟩
      obtain ⟨y, hy⟩ : ∃ y, m[k]?.getD 0 = y := ⟨_, rfl⟩
      rw [hx] at hsa HS
      rw [hy] at hsb HS
      clear hx hy
      have e5 : (k : Int) < (a.size : Int) := by omega
      have e6 : (k : Int) < (b.size : Int) := by omega
      have HL := difN_len l m k
      by_cases hxy : x = y
      · subst hxy
        have HS' : Hid (difN l m (k + 1) = difN l m k) := by unfold Hid; rw [HS.out, if_pos rfl]
        clear HS
        go_wp2_with fail
        go_quiet (fail)
        go_wp2
        go_roundw
        case rel => exact ⟨k + 1, by omega, by go_num, by rw [HS'.out]; exact HO, bdN HBW.out _⟩
        case measure => simp [intOf] <;> omega
      · have HS' : Hid (difN l m (k + 1) = difN l m k ++ [k]) := by unfold Hid; rw [HS.out, if_neg hxy]
        have hne : ((x.toNat : Int) == (y.toNat : Int)) = false := u8_ne x y _ rfl hxy
        have hne' : ((x.toNat : Int) != (y.toNat : Int)) = true := by rw [bne, hne]; rfl
        clear HS hxy
        go_wp2_with fail
        go_quiet (fail)
        go_wp2_with (at_builtin; refine wpList_append_ints rfl _ _ 23 3 rfl Try.underlying23 Try.infoI64 w.heap.size _ _ _ rfl ((owns_drewN HO.out nq).alloc _) ?h1 ?h2 wr.heap.size 1 1 [(k : Int)] rfl rfl ?h3 ?h4 ?_)
        case h1 => unfold natI; rw [List.length_map]
        case h2 => simp; omega
        case h3 => exact fun i hi => ((cellsI_one (wr.drewN nq) _ _).at i hi)
        case h4 => omega
        intro v' w' hown hgr
        have hb' : Below w.heap.size w w' := (bdN HBW.out nq).trans (((Below.refl _ (wr.drewN nq)).alloc hbz _).trans (below_grown ((owns_drewN HO.out nq).alloc _) hgr (by simp; omega) (Nat.le_refl _)))
        have HO' : Hid (w'.ownsRow w.heap.size 3 1 v' (difN l m (k + 1)).length ((natI (difN l m (k + 1))).map i64v)) := by
          unfold Hid; rw [HS'.out, List.length_append]; unfold natI at hown ⊢; rw [List.map_append, List.map_append]; exact hown
        clear hown hgr
        go_wp2
        go_roundw
        case rel => exact ⟨k + 1, by omega, by go_num, HO', hb'⟩
        case measure => simp [intOf] <;> omega
    · obtain rfl : k = a.size := by omega
      go_wp2
      go_ret2
      refine ⟨_, rfl, ?_, hB⟩
      rw [← HD.out, ← HLN.out]
      exact slI_of_owns HO.out (by unfold natI; rw [List.length_map])
end Go.Proofs.Ytamkahjdedomlaa
