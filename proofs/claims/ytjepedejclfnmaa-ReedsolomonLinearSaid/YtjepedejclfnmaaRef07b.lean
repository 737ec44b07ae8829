/-
  The walks of the reference's Differ and Xor.
-/
import Derived.Test.YtjepedejclfnmaaRef07
import Derived.Laws.BytesString
import Derived.Deep.RegionLawGrows
import Derived.BigRegion
namespace Go.Proofs.Ytjepedejclfnmaa
open Go.RowKit
set_option linter.unusedVariables false

theorem run_str_none {P : Program} (w : World) (src dst e : TypeId) (p : Option Addr) (c : Nat) (hs : P.underlying src = some (.slice e)) (he : P.underlying e = some (.int .u8)) (hd : P.underlying dst = some .string) :
    (convert src dst (.slice p 0 c)).run P w = .ok (.string ⟨#[]⟩) w := by
  rw [run_convert_bytes_string w src dst e _ 0 c hs he hd]
  cases p <;> simp [Conv.bytesToString, loadCells]
  all_goals rfl
theorem run_str_sl {P : Program} (w : World) (src dst e : TypeId) (B : Nat) (v : Value) (l : List UInt8) (hs : P.underlying src = some (.slice e)) (he : P.underlying e = some (.int .u8)) (hd : P.underlying dst = some .string)
    (h : Sl w B v l) : (convert src dst v).run P w = .ok (.string ⟨l.toArray⟩) w := by
  rcases h with ⟨a, cap, rfl, rfl⟩ | ⟨g, cap, rfl, _, _, _, _, hC⟩
  · exact run_str_none w src dst e a cap hs he hd
  · exact run_str w src dst e g _ cap l hs he hd hC rfl

theorem step_append_one {P : Program} {ops : Array Oper} {o : Oper} {a : Act} {w : World} {K : Act → World → Prop} {Q : Exit → Act → World → Prop} {E : Prop}
    (hg : o.guard = none) (s x : Operand) (t e : TypeId) (hop : o.op = Op.call { callee := Callee.builtin Builtin.append, args := #[s, x], argTypes := #[t, t] })
    (ht : P.underlying t = some (.slice e)) (h2 : (P.info? e).map (fun i => (i.zero, i.size, i.bytes)) = some (some (.int .u8 0), 1, 1))
    (base : Nat) (v : Value) (n : Nat) (xs : List Value) (hs : a.eval s = v) (hown : w.ownsRow base e 1 v n xs) (hbase : base ≤ w.heap.size) (g c : Nat) (b : UInt8) (hx : a.eval x = .slice (some ⟨g, 0, none⟩) 1 c) (hC : Cells w g [b]) (hn : n ≤ 100000000)
    (hK : ∀ v' w', w'.ownsRow base e 1 v' (n + 1) (xs ++ [u8v b]) → Below base w w' → K (a.put o.dst v') w') :
    if Region.wanted o (yielded ops a.tmps) = true then Oper.wp P o a w K Q else E := by
  have hw : Region.wanted o (yielded ops a.tmps) = true := by simp [Region.wanted, hg]
  rw [if_pos hw]
  obtain ⟨i, hi, hz0, hz1, hz2⟩ := info_u8 h2
  have h0 := hC.at 0 (by simp)
  obtain ⟨v', w', hrun, r1, r2, _⟩ := run_append_own (P := P) w base t o.type e i (.int .u8 0) 1 1 ht hi hz0 hz1 hz2 rfl (by decide) v n xs hown ⟨g, 0, none⟩ 1 c [u8v b] rfl
    (by
      intro j u hj
      match j, hj with
      | 0, hj => have e : u8v b = u := Option.some.inj hj
                 rw [← e]; exact h0
      | j + 1, hj => simp at hj)
    (by
      intro u hu
      rw [List.mem_singleton] at hu
      rw [hu]; rfl)
    (by unfold maxLen; omega) (by omega) hbase
  unfold Oper.wp
  simp [execOp, hop, resolve, invoke, builtin, hs, hx, hrun, Result.andThen]
  exact hK v' w' r1 ((Below.refl _ w).grown r2 hbase fun k hk => (hown.lt k hk).1)

/-- The number of places below k at which two words differ. -/
def cntTo (a b : List UInt8) : Nat → Nat
  | 0 => 0
  | k + 1 => cntTo a b k + (if a[k]?.getD 0 = b[k]?.getD 0 then 0 else 1)
theorem cntTo_le (a b : List UInt8) (k : Nat) : cntTo a b k ≤ k := by
  induction k with
  | zero => exact Nat.le_refl _
  | succ k ih => simp only [cntTo]; split <;> omega
theorem cnt_filter (a b : List UInt8) (k : Nat) : ((List.range k).filter fun i => a[i]?.getD 0 != b[i]?.getD 0).length = cntTo a b k := by
  induction k with
  | zero => rfl
  | succ k ih =>
    rw [List.range_succ, List.filter_append, List.length_append, ih]
    simp only [cntTo]
    by_cases h : a[k]?.getD 0 = b[k]?.getD 0
    · rw [if_pos h, show (List.filter (fun i => a[i]?.getD 0 != b[i]?.getD 0) [k]) = [] by simp [List.filter, h]]; rfl
    · rw [if_neg h, show (List.filter (fun i => a[i]?.getD 0 != b[i]?.getD 0) [k]) = [k] by simp only [List.filter]; rw [bne_iff_ne.2 h]]; rfl
theorem diffs_len (a b : List UInt8) : (diffs a b).length = cntTo a b a.length := cnt_filter a b a.length

theorem differ_any (s t : ByteArray) (n : Nat) (hs : s.size = n) (ht : t.size = n) (hn : n ≤ 100000) (w : World) : Calls Try.prog 21 #[.string s, .string t] w fun e w' => e = .returned (.int .i64 (cntTo s.data.toList t.data.toList n)) ∧ ∃ n, w' = w.drewN n := by
  obtain ⟨l, hl⟩ : ∃ l, s.data.toList = l := ⟨_, rfl⟩
  obtain ⟨m, hm⟩ : ∃ m, t.data.toList = m := ⟨_, rfl⟩
  obtain ⟨_, hat⟩ := str_at hl
  obtain ⟨_, hbt⟩ := str_at hm
  rw [hl, hm]
  have HAT := Lib.hid hat
  have HBT := Lib.hid hbt
  have HS := Lib.hid hs
  have HT := Lib.hid ht
  clear hl hm hat hbt
  go_enter Try.func21, Try.ntmps21
  go_wp2
  go_loopw [5, 6] (fun y i wr => ∃ k : Nat, k ≤ n ∧ i = .int .i64 k ∧ y = .int .i64 (cntTo l m k) ∧ ∃ q, wr = w.drewN q) (fun _ i _ => n - (intOf i).toNat)
  case atStart => exact ⟨0, Nat.zero_le _, rfl, rfl, 0, rfl⟩
  case round =>
    obtain ⟨k, hk, rfl, rfl, q, hq⟩ := hrel
    have HQ := Lib.hid hq
    have hc := cntTo_le l m k
    clear hq
    by_cases hlt : k < n
    · have hsk := HAT.out k (by rw [HS.out]; exact hlt)
      have htk := HBT.out k (by rw [HT.out]; exact hlt)
      have hst : Hid (cntTo l m (k + 1) = cntTo l m k + (if l[k]?.getD 0 = m[k]?.getD 0 then 0 else 1)) := rfl
      obtain ⟨x, hx⟩ : ∃ x, l[k]?.getD 0 = x := ⟨_, rfl⟩
      obtain ⟨y, hy⟩ : ∃ y, m[k]?.getD 0 = y := ⟨_, rfl⟩
      obtain ⟨c, hcc⟩ : ∃ c, cntTo l m k = c := ⟨_, rfl⟩
      rw [hx] at hsk hst
      rw [hy] at htk hst
      rw [hcc] at hst hc ⊢
      clear hx hy hcc
      by_cases e : x = y
      · subst e
        rw [if_pos rfl] at hst
        have hb : ((x.toNat : Int) != (x.toNat : Int)) = false := bne_self_eq_false _
        have e5 : (k : Int) < (s.size : Int) := by omega
        have e6 : (k : Int) < (t.size : Int) := by omega
        go_wp2_with fail
        go_quiet (fail)
        go_wp2
        go_roundw
        case rel => exact ⟨k + 1, by omega, by go_num, by rw [hst.out]; rfl, q + nq, by rw [HQ.out, World.drewN_drewN]⟩
        case measure => simp [intOf] <;> omega
      · rw [if_neg e] at hst
        have hb : ((x.toNat : Int) != (y.toNat : Int)) = true := by
          rw [bne_iff_ne]; intro c; exact e (UInt8.toNat_inj.1 (by omega))
        have e5 : (k : Int) < (s.size : Int) := by omega
        have e6 : (k : Int) < (t.size : Int) := by omega
        go_wp2_with fail
        go_quiet (fail)
        go_wp2
        go_roundw
        case rel => exact ⟨k + 1, by omega, by go_num, by rw [hst.out]; go_num, q + nq, by rw [HQ.out, World.drewN_drewN]⟩
        case measure => simp [intOf] <;> omega
    · obtain rfl : k = n := by omega
      go_wp2
      go_ret
      exact ⟨rfl, q, HQ.out⟩

set_option maxHeartbeats 1000000 in
theorem rxor_any (s t : ByteArray) (n : Nat) (hs : s.size = n) (ht : t.size = n) (hn : n ≤ 100000) (w : World) : Calls Try.prog 20 #[.string s, .string t] w fun e w' => e = .returned (.string ⟨(xorL s.data.toList t.data.toList).toArray⟩) ∧ Below w.heap.size w w' := by
  obtain ⟨l, hl⟩ : ∃ l, s.data.toList = l := ⟨_, rfl⟩
  obtain ⟨m, hm⟩ : ∃ m, t.data.toList = m := ⟨_, rfl⟩
  obtain ⟨hll, hat⟩ := str_at hl
  obtain ⟨hml, hbt⟩ := str_at hm
  rw [hl, hm]
  have hX : ∀ k, k < n → (xorL l m).take (k + 1) = (xorL l m).take k ++ [l[k]?.getD 0 ^^^ m[k]?.getD 0] := by
    intro k hk
    have hk1 : k < l.length := by omega
    have hk2 : k < m.length := by omega
    rw [List.take_add_one]
    congr 1
    unfold xorL
    rw [List.getElem?_zipWith, List.getElem?_eq_getElem hk1, List.getElem?_eq_getElem hk2]; rfl
  have hXn : (xorL l m).take n = xorL l m := List.take_of_length_le (by rw [xorL_len]; omega)
  have hXl : ∀ k, k ≤ n → ((xorL l m).take k).length = k := by intro k hk; rw [List.length_take, xorL_len]; omega
  obtain ⟨X, hXX⟩ : ∃ X, xorL l m = X := ⟨_, rfl⟩
  rw [hXX] at hX hXn hXl ⊢
  have HX := Lib.hid hX
  have HXN := Lib.hid hXn
  have HXL := Lib.hid hXl
  have HAT := Lib.hid hat
  have HBT := Lib.hid hbt
  have HS := Lib.hid hs
  have HT := Lib.hid ht
  clear hl hm hat hbt hll hml hX hXn hXl hXX
  go_enter Try.func20, Try.ntmps20
  go_wp2
  go_loopw [5, 6] (fun y i wr => ∃ k : Nat, k ≤ n ∧ i = .int .i64 k ∧ wr.ownsRow w.heap.size 5 1 y k ((X.take k).map u8v) ∧ Below w.heap.size w wr) (fun _ i _ => n - (intOf i).toNat)
  case atStart =>
    refine ⟨0, Nat.zero_le _, rfl, ?_, (Below.refl _ w).alloc (Nat.le_refl _) _⟩
    exact World.ownsRow_lit w #[] 0 (Nat.le_refl _) (by unfold maxLen; omega) rfl
  case round =>
    obtain ⟨k, hk, rfl, hO, hB⟩ := hrel
    by_cases hlt : k < n
    · have hsk := HAT.out k (by rw [HS.out]; exact hlt)
      have htk := HBT.out k (by rw [HT.out]; exact hlt)
      have hst := HX.out k hlt
      obtain ⟨x, hx⟩ : ∃ x, l[k]?.getD 0 = x := ⟨_, rfl⟩
      obtain ⟨y, hy⟩ : ∃ y, m[k]?.getD 0 = y := ⟨_, rfl⟩
      rw [hx] at hsk hst
      rw [hy] at htk hst
      obtain ⟨r, hr⟩ : ∃ r, x ^^^ y = r := ⟨_, rfl⟩
      have hxx := xor_r _ _ _ hr
      rw [hr] at hst
      have HST := Lib.hid hst
      have HO := Lib.hid hO
      have HB := Lib.hid hB
      clear hx hy hr hst hO hB
      have e5 : (k : Int) < (s.size : Int) := by omega
      have e6 : (k : Int) < (t.size : Int) := by omega
      go_wp2_with fail
      go_region_law ((refine step_append_one (by rfl) _ _ 22 5 (by rfl) Try.underlying22 Try.infoU8 w.heap.size u5 k _ (by rfl) (HO.out.drew.alloc _) (by have := HB.out.size; simp; omega) wr.heap.size 1 r (by rfl) (cells_one _ r _) (by omega) ?_; intro v' w1 hown1 hb1))
      all_goals
        go_wp2
        go_roundw
        case rel => exact ⟨k + 1, by omega, by go_num, by rw [HST.out, List.map_append]; exact hown1, ((HB.out.alloc HB.out.size _).drew).trans hb1⟩
        case measure => simp [intOf] <;> omega
    · obtain rfl : k = n := by omega
      have hsl : Sl wr w.heap.size u5 X := by
        have h0 := HXL.out k (Nat.le_refl _)
        rw [HXN.out] at hO h0
        exact sl_of_owns (e := 5) (by rw [h0]; exact hO)
      have hst := run_str_sl (P := Try.prog) wr 22 9 5 w.heap.size u5 X Try.underlying22 Try.underlying5 Try.underlying9 hsl
      have HB := Lib.hid hB
      clear hO hB hsl
      go_wp2
      go_ret
      exact ⟨rfl, HB.out⟩
end Go.Proofs.Ytjepedejclfnmaa
