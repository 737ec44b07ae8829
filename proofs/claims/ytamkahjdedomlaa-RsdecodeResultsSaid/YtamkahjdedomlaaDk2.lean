/-
  The walk of gfpoly.Add.
-/
import Derived.Test.YtamkahjdedomlaaDk1
namespace Go.Proofs.Ytamkahjdedomlaa
open Go.RowKit
set_option linter.unusedVariables false

def addTo (p q : List UInt8) : Nat → List UInt8
  | 0 => p ++ List.replicate (max p.length q.length - p.length) 0
  | k + 1 => (addTo p q k).set k ((addTo p q k)[k]?.getD 0 ^^^ (q[k]?.getD 0))
def padd (p q : List UInt8) : List UInt8 := trim (addTo p q q.length)
theorem addTo_len (p q : List UInt8) (k : Nat) : (addTo p q k).length = max p.length q.length := by
  induction k with
  | zero => simp only [addTo, List.length_append, List.length_replicate]; omega
  | succ k ih => simp only [addTo, List.length_set]; exact ih
theorem co_pad (p : List UInt8) (m n : Nat) : co (p ++ List.replicate m 0) n = co p n := by
  by_cases c : n < p.length
  · exact co_append_left _ _ _ c
  · obtain ⟨j, rfl⟩ : ∃ j, n = p.length + j := ⟨n - p.length, by omega⟩
    rw [co_append_right, co_replicate, co_out _ _ (by omega)]
theorem co_addTo (p q : List UInt8) (k : Nat) (hk : k ≤ q.length) (n : Nat) : co (addTo p q k) n = co p n + (if n < k then co q n else 0) := by
  induction k generalizing n with
  | zero => rw [if_neg (by omega), F.add_zero]; exact co_pad _ _ _
  | succ k ih =>
    simp only [addTo]
    rw [co_set _ _ _ _ (by rw [addTo_len]; omega)]
    by_cases e : n = k
    · subst e
      rw [if_pos rfl, if_pos (by omega)]
      show co (addTo p q n) n + co q n = _
      rw [ih (by omega), if_neg (by omega), F.add_zero]
    · rw [if_neg e, ih (by omega)]
      by_cases c : n < k
      · rw [if_pos c, if_pos (by omega)]
      · rw [if_neg c, if_neg (by omega)]
theorem co_padd (p q : List UInt8) (n : Nat) : co (padd p q) n = co p n + co q n := by
  unfold padd
  rw [co_trim, co_addTo _ _ _ (Nat.le_refl _)]
  by_cases c : n < q.length
  · rw [if_pos c]
  · rw [if_neg c, co_out q n (by omega)]
theorem setMany_pad (p : List UInt8) (m : Nat) : setMany (List.replicate (p.length + m) 0) 0 p = p ++ List.replicate m 0 := by
  refine co_ext (by rw [setMany_len]; simp) fun n hn => ?_
  rw [co_setMany _ _ _ _ (by simp), co_pad]
  by_cases c : n < p.length
  · rw [if_pos (by omega), Nat.sub_zero]
  · rw [if_neg (by omega), co_replicate, co_out _ _ (by omega)]

/-- 'copy(a, b)': b, at the head of another block, goes over the head of a. -/
theorem wpList_copy_over {P : Program} {w : World} {ops : Array Oper} {rest : List Oper} {o : Oper} {a : Act} {Q : Exit → Act → World → Prop} (hgd : o.guard = none) (d s : Operand) (t e : TypeId)
    (ho : o.op = .call { callee := .builtin .copy, args := #[d, s], argTypes := #[t, t] }) (ht : P.underlying t = some (.slice e)) (h2 : (P.info? e).map (fun i => (i.zero, i.size, i.bytes)) = some (some (.int .u8 0), 1, 1))
    (g M dc gs m sc : Nat) (L p : List UInt8) (hL : L.length = M) (hp : p.length = m) (hle : m ≤ M) (hd : a.eval d = .slice (some ⟨g, 0, none⟩) M dc) (hs : a.eval s = .slice (some ⟨gs, 0, none⟩) m sc) (hC : Cells w g L) (hP : Cells w gs p)
    (h : ∀ w', Cells w' g (setMany L 0 p) → Onl g g w w' → wpList P ops Q rest (a.put o.dst (.int .i64 m)) w') : wpList P ops Q (o :: rest) a w := by
  obtain ⟨i, hi, hz0, hz1, hz2⟩ := info_u8 h2
  refine wpList_plain hgd fun K hK => ?_
  have hrun := run_copy_cells (P := P) w t t o.type e g 0 M dc ⟨gs, 0, none⟩ m sc (p.map u8v) ht (by rw [hi]; simpa using hz1) (by rw [List.length_map, hp]; show m = min m M; omega)
    (by
      intro j u hj
      rw [List.getElem?_map] at hj
      obtain ⟨b, hb1, hb2⟩ := Option.map_eq_some_iff.1 hj
      have hjl : j < p.length := (List.getElem?_eq_some_iff.1 hb1).1
      have e1 : (⟨gs, 0, none⟩ : Addr).add j = ⟨gs, j, none⟩ := by unfold Addr.add; split <;> simp_all
      rw [e1, hP.at _ hjl, hb1, ← hb2]; rfl)
    (by
      intro j hj
      rw [List.length_map, hp] at hj
      rw [Nat.zero_add, hC.at j (by omega)]; rfl)
    (by
      intro j hj
      rw [List.length_map, hp] at hj
      rw [Nat.zero_add]; exact hC.free j (by omega))
    (by
      intro u hu
      obtain ⟨b, _, hb2⟩ := List.mem_map.1 hu
      rw [← hb2]; rfl)
  rw [List.length_map, hp] at hrun
  have hK2 := h _ (Cells.setMany p 0 hC (by omega)) (Onl.setCells (Nat.le_refl g) (p.map u8v) 0 (Onl.refl g g w))
  unfold Oper.wp
  simp [execOp, ho, resolve, invoke, builtin, hd, hs, hrun, Result.andThen]
  exact hK _ _ hK2

set_option maxRecDepth 100000 in
set_option maxHeartbeats 1000000 in
theorem add_poly (g1 g2 c1 c2 m n : Nat) (p q : List UInt8) (w : World) (hp : Cells w g1 p) (hq : Cells w g2 q) (hm : p.length = m) (hn : q.length = n) (hm1 : m ≤ 2000) (hn1 : n ≤ 2000) :
    Calls Try.prog 50 #[.slice (some ⟨g1, 0, none⟩) m c1, .slice (some ⟨g2, 0, none⟩) n c2] w fun e w' => ∃ v', e = .returned v' ∧ Sl w' w.heap.size v' (padd p q) ∧ Below w.heap.size w w' := by
  obtain ⟨M, hM⟩ : ∃ M, max m n = M := ⟨_, rfl⟩
  have HP := Lib.hid hp
  have HQ := Lib.hid hq
  have HPL := Lib.hid hm
  have HQL := Lib.hid hn
  have hg1 := hp.1
  have hg2 := hq.1
  have hmx : (if m < n then (n : Int) else m) = M := by split <;> omega
  have hMm : m ≤ M := by omega
  have hMn : n ≤ M := by omega
  have hM2 : M ≤ 2000 := by omega
  have HMX := Lib.hid hM
  clear hp hq hm hn hM
  go_enter Try.func50, Try.ntmps50
  go_wp2_with (first
    | (at_make; refine wpList_make_bytes rfl _ _ 33 5 rfl Try.underlying33 Try.infoU8 M (by go_num) (by go_num) (by omega) ?_; intro w1 hC1 hB1 hz1; rw [show List.replicate M (0 : UInt8) = List.replicate (p.length + (M - m)) 0 by rw [HPL.out, show m + (M - m) = M by omega]] at hC1)
    | (refine wpList_copy_over rfl (.tmp 13) (.tmp 14) 33 5 rfl Try.underlying33 Try.infoU8 w.heap.size M M g1 m c1 (List.replicate (p.length + (M - m)) 0) p ?h1 HPL.out hMm rfl rfl hC1 (HP.out.kept hB1) ?_))
  case h1 => rw [List.length_replicate, HPL.out]; omega
  intro w2 hC2 hO2
  have hC0 : Cells w2 w.heap.size (addTo p q 0) := by
    have e := setMany_pad p (M - m)
    rw [e] at hC2
    simp only [addTo]
    rw [HPL.out, HQL.out, HMX.out]; exact hC2
  have hB0 : Below w.heap.size w w2 := hB1.trans hO2.below
  have HLn : Hid (∀ k, (addTo p q k).length = M) := fun k => by rw [addTo_len, HPL.out, HQL.out, HMX.out]
  clear hC1 hB1 hz1 hC2 hO2 hmx
  go_wp2
  go_loopw [18] (fun i wr => ∃ k : Nat, k ≤ n ∧ i = .int .i64 k ∧ Cells wr w.heap.size (addTo p q k) ∧ Below w.heap.size w wr) (fun i _ => n - (intOf i).toNat)
  case atStart => exact ⟨0, Nat.zero_le _, rfl, hC0, hB0⟩
  case round =>
    clear hC0 hB0
    obtain ⟨k, hk, rfl, hC, hB⟩ := hrel
    by_cases hlt : k < n
    · have hlen : (addTo p q k).length = M := HLn.out k
      have hcq := (HQ.out.kept hB).at k (by rw [HQL.out]; exact hlt)
      have hco := hC.at k (by rw [hlen]; omega)
      have hfo := hC.free k (by rw [hlen]; omega)
      have hst : Hid (addTo p q (k + 1) = (addTo p q k).set k ((addTo p q k)[k]?.getD 0 ^^^ (q[k]?.getD 0))) := rfl
      obtain ⟨y, hy⟩ : ∃ y, q[k]?.getD 0 = y := ⟨_, rfl⟩
      obtain ⟨z, hz⟩ : ∃ z, (addTo p q k)[k]?.getD 0 = z := ⟨_, rfl⟩
      rw [hy] at hcq hst
      rw [hz] at hco hst
      obtain ⟨s, hs⟩ : ∃ s, z ^^^ y = s := ⟨_, rfl⟩
      have HS := Lib.hid hs
      clear hs
      have HC := Lib.hid hC
      have HB := Lib.hid hB
      have HLEN := Lib.hid hlen
      clear hy hz hC hlen
      have hkM : k < M := by omega
      have hkM2 : (k : Int) < (M : Int) := by omega
      go_wp2_with fail
      go_still_tail 12, (by kernel_rfl)
      still_call (still_same (add_r z y s HS _))
      repeat still_step
      refine wpStill_nil ?_
      change wpList _ _ _ _ _ wr.drew
      go_wp2
      go_roundw
      case rel => exact ⟨k + 1, by omega, by go_num, by rw [hst.out, HS.out]; exact (HC.out.set _ (by rw [HLEN.out]; omega) s).drew, (HB.out.setCell (Nat.le_refl _) _).drew⟩
      case measure => simp [intOf] <;> omega
    · obtain rfl : k = n := by omega
      go_wp2_with fail
      refine (trim_any _ (addTo p q k) _ (Sl.of_cells hC (Nat.zero_le _) (by rw [HLn.out]; exact Nat.le_refl _) (by unfold maxLen; omega) _ (HLn.out k)) (by rw [HLn.out]; omega)).mono ?_
      rintro e w' ⟨v', rfl, hs, hb⟩
      go_wp2
      go_ret
      exact ⟨_, rfl, by unfold padd; rw [HQL.out]; exact hs.mono hB.size, bt hB hb⟩
end Go.Proofs.Ytamkahjdedomlaa
