/-
  The walks of the small functions of rsdecode and of gfpoly.Add.
-/
import Derived.Test.YtamkahjdedomlaaEnc
import Derived.Laws.CopyOwn
namespace Go.Proofs.Ytamkahjdedomlaa
open Go.RowKit
set_option linter.unusedVariables false

theorem at_in (g c d n : Nat) (p : List UInt8) (w : World) (hp : Cells w g p) (hn : p.length = n) (hd : d < n) : Calls Try.prog 49 #[.slice (some ⟨g, 0, none⟩) n c, .int .i64 d] w fun e w' => e = .returned (.int .u8 (p[d]?.getD 0).toNat) ∧ w = w' := by
  have hc := hp.at d (by omega)
  obtain ⟨x, hx⟩ : ∃ x, p[d]?.getD 0 = x := ⟨_, rfl⟩
  rw [hx] at hc ⊢
  have e1 : ¬ n ≤ d := by omega
  have e2 : (d : Int) < n := by omega
  clear hp hn hx
  go_enter Try.func49, Try.ntmps49
  go_wp2
  go_ret
  exact ⟨rfl, rfl⟩
theorem at_out (v : Option Addr) (c d n : Nat) (hd : n ≤ d) (w : World) : Calls Try.prog 49 #[.slice v n c, .int .i64 d] w fun e w' => e = .returned (.int .u8 0) ∧ w = w' := by
  go_enter Try.func49, Try.ntmps49
  go_wp2
  go_ret
  exact ⟨rfl, rfl⟩
theorem at_any (g c d : Nat) (p : List UInt8) (w : World) (hp : Cells w g p) : Calls Try.prog 49 #[.slice (some ⟨g, 0, none⟩) p.length c, .int .i64 d] w fun e w' => e = .returned (.int .u8 (p[d]?.getD 0).toNat) ∧ w = w' := by
  by_cases h : d < p.length
  · exact at_in g c d _ p w hp rfl h
  · rw [List.getElem?_eq_none (by omega)]
    exact at_out _ c d _ (by omega) w
theorem scaled_any (g c n : Nat) (p : List UInt8) (b : UInt8) (w : World) (hp : Cells w g p) (hn : p.length = n) (hz : n ≤ 1000) : Calls Try.prog 52 #[.slice (some ⟨g, 0, none⟩) n c, .int .u8 b.toNat] w fun e w' => ∃ v', e = .returned v' ∧ Sl w' w.heap.size v' (pmul p [b]) ∧ Below w.heap.size w w' := by
  have HP := Lib.hid hp
  have HN := Lib.hid hn
  clear hp hn
  go_enter Try.func52, Try.ntmps52
  go_wp2_with fail
  have hcall := pmul_some g w.heap.size c 1 p [b] _ (HP.out.alloc (.cells #[.int .u8 b.toNat] 5)) (cells_one w b 5) (by rw [HN.out]; exact hz) (by simp)
  rw [HN.out] at hcall
  refine hcall.mono ?_
  rintro e w2 ⟨v', rfl, hs, hb⟩
  have hs2 := Lib.hid (hs.mono (B' := w.heap.size) (by simp))
  have hb2 := Lib.hid ((((Below.refl _ w).alloc (Nat.le_refl _) (.cells #[.int .u8 b.toNat] 5))).trans (hb.mono (by simp)))
  clear hcall hs hb
  go_wp2
  go_ret
  exact ⟨_, rfl, hs2.out, hb2.out⟩
theorem make_own_bytes {P : Program} {w : World} {ops : Array Oper} {rest : List Oper} {o : Oper} {a : Act} {Q : Exit → Act → World → Prop}
    (hg : o.guard = none) (l c : Operand) (t e : TypeId) (hop : o.op = Op.makeSlice t l c) (h1 : P.underlying t = some (.slice e)) (h2 : (P.info? e).map (fun i => (i.zero, i.size, i.bytes)) = some (some (.int .u8 0), 1, 1))
    (n : Nat) (hl : a.eval l = .int .i64 n) (hc : a.eval c = .int .i64 n) (hn : n ≤ 100000000)
    (hK : ∀ w1, w1.ownsRow w.heap.size e 1 (.slice (some ⟨w.heap.size, 0, none⟩) n n) n ((List.replicate n (0 : UInt8)).map u8v) → Below w.heap.size w w1 → w.heap.size < w1.heap.size → wpList P ops Q rest (a.put o.dst (.slice (some ⟨w.heap.size, 0, none⟩) n n)) w1) :
    wpList P ops Q (o :: rest) a w := by
  obtain ⟨i, hi, hz0, hz1, hz2⟩ := info_u8 h2
  refine wpList_make_full w hg l c t hop w.heap.size e i (.int .u8 0) 1 h1 hi hz0 hz1 .i64 .i64 n n n hl hc rfl rfl (by rw [hz2]; omega) (by unfold maxLen; omega) (Nat.le_refl _) fun w' hown hgr => ?_
  have hrep : (madeCells (Value.cells (.int .u8 0)) (n * 1)).toList = (List.replicate n (0 : UInt8)).map u8v := by
    rw [Nat.mul_one]; show (madeCells #[.int .u8 0] n).toList = _
    rw [toList_madeCells_one, List.map_replicate]; rfl
  rw [hrep] at hown
  have hlt : w.heap.size < w'.heap.size := (hown.lt w.heap.size rfl).2
  exact hK w' hown ((Below.refl _ w).grown hgr (Nat.le_refl _) (fun k e => by cases e)) hlt
theorem shifted_any (g c n by_ : Nat) (p : List UInt8) (w : World) (hp : Cells w g p) (hn : p.length = n) (hz : n ≤ 1000) (hb : by_ ≤ 1000) : Calls Try.prog 51 #[.slice (some ⟨g, 0, none⟩) n c, .int .i64 by_] w fun e w' => ∃ v', e = .returned v' ∧ Sl w' w.heap.size v' (List.replicate by_ 0 ++ p) ∧ Below w.heap.size w w' := by
  have HP := Lib.hid hp
  have HN := Lib.hid hn
  clear hp hn
  go_enter Try.func51, Try.ntmps51
  go_wp2_with (first
    | (at_make; refine make_own_bytes rfl _ _ 33 5 rfl Try.underlying33 Try.infoU8 by_ (by go_num) (by go_num) (by omega) ?_; intro w1 hO1 hB1 hz1)
    | (at_builtin; refine wpList_append_bytes rfl _ _ 33 5 rfl Try.underlying33 Try.infoU8 w.heap.size (.slice (some ⟨w.heap.size, 0, none⟩) by_ by_) (List.replicate by_ 0) (by rfl) ?h1 ?h2 g n c p (by rfl) HN.out ?h3 ?h4 ?_))
  case h1 => rw [List.length_replicate]; exact hO1
  case h2 => omega
  case h3 => exact HP.out.kept hB1
  case h4 => rw [HN.out]; simp; omega
  intro v' w' hown hgr
  have hb2 : Below w.heap.size w w' := hB1.trans (below_own hgr hB1.size (Nat.le_refl _))
  have hs : Sl w' w.heap.size v' (List.replicate by_ 0 ++ p) := sl_of_owns (e := 5) (by simpa using hown)
  clear hown hgr
  go_wp2
  go_ret
  exact ⟨_, rfl, hs, hb2⟩
end Go.Proofs.Ytamkahjdedomlaa
