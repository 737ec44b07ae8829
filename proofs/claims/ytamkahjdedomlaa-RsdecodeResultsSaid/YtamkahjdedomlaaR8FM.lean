/-
  The small functions of the reference of layer 8, walked: element, power, has, modified.
  modified, walked: the syndromes times the erasures' locator.
-/
import Derived.Test.YtamkahjdedomlaaR8GS
import Derived.Test.YtamkahjdedomlaaRdPre
import Derived.Test.YtamkahjdedomlaaDecDef
import Derived.StillTailTactics
import Derived.Test.YtamkahjdedomlaaR8Ga
namespace Go.Proofs.Ytamkahjdedomlaa
open Go.RowKit
set_option linter.unusedVariables false

theorem element_any (i n : Nat) (hi : i < n) (hn : n ≤ 255) (w : World) : Calls Try.prog 59 #[.int .i64 i, .int .i64 n] w fun e w' => e = .returned (.int .u8 (F.expB (n - 1 - i)).toNat) ∧ w = w' := by
  obtain ⟨m, hm⟩ : ∃ m : Nat, n - 1 - i = m := ⟨_, rfl⟩
  have e1 : IntKind.i64.wrap ((n : Int) - 1) = (n : Int) - 1 := IntWalk.i64_in _ (by omega)
  have e2 : IntKind.i64.wrap ((n : Int) - 1 - i) = (m : Int) := by rw [show (n : Int) - 1 - i = m by omega]; exact IntWalk.i64_in _ (by omega)
  rw [hm]
  have hr : F.red (m : Int) = m := by unfold F.red; omega
  have hc := fun w => rexp_any (m : Int) (by omega) (by omega) w
  rw [hr] at hc
  have HCC := Lib.hid hc
  clear hc hr hm
  go_enter Try.func59, Try.ntmps59
  go_wp2_with fail
  refine (HCC.out _).mono ?_
  rintro e w2 ⟨rfl, rfl⟩
  go_wp2
  go_ret
  exact ⟨rfl, rfl⟩
theorem rpower_any (x : UInt8) (n : Nat) (hn : n < 1000000) (w : World) : Calls Try.prog 63 #[.int .u8 x.toNat, .int .i64 n] w fun e w' => e = .returned (.int .u8 (F.powB x n).toNat) ∧ w = w' := by
  go_enter Try.func63, Try.ntmps63
  go_wp2
  go_loop [5, 6] (fun y i => ∃ k : Nat, k ≤ n ∧ i = .int .i64 k ∧ y = .int .u8 (F.powB x k).toNat) (fun _ i => n - (intOf i).toNat)
  case atStart => exact ⟨0, Nat.zero_le _, rfl, rfl⟩
  case round =>
    obtain ⟨k, hk, rfl, rfl⟩ := hrel
    by_cases hlt : k < n
    · have hst : Hid (F.powB x (k + 1) = F.mulB (F.powB x k) x) := rfl
      obtain ⟨y, hy⟩ : ∃ y, F.powB x k = y := ⟨_, rfl⟩
      rw [hy] at hst ⊢
      clear hy
      go_wp2_with fail
      refine (rmul_any y x _).mono ?_
      rintro e w' ⟨rfl, rfl⟩
      go_wp2
      go_round
      case rel => exact ⟨k + 1, by omega, by go_num, by rw [hst.out]⟩
      case measure => simp [intOf] <;> omega
    · obtain rfl : k = n := by omega
      go_wp2
      go_ret
      exact ⟨rfl, rfl⟩
theorem has_any (v : Value) (l : List Int) (x : Int) (w : World) (hl : RdI w v l) (hn : l.length ≤ 100000) : Calls Try.prog 35 #[v, .int .i64 x] w fun e w' => e = .returned (.bool (decide (x ∈ l))) ∧ w = w' := by
  obtain ⟨a, off, cap, rfl, hf⟩ := hl.form
  obtain ⟨n, hnn⟩ : ∃ n, l.length = n := ⟨_, rfl⟩
  rw [hnn] at hf hn ⊢
  have HF := Lib.hid hf
  have HN := Lib.hid hnn
  clear hf hnn hl
  go_enter Try.func35, Try.ntmps35
  go_wp2_with fail
  go_loopw [5] (fun i wr => ∃ k : Nat, k ≤ n ∧ i = .int .i64 k ∧ w = wr ∧ Hid (∀ j, j < k → l[j]?.getD 0 ≠ x)) (fun i _ => n - (intOf i).toNat)
  case atStart => exact ⟨0, Nat.zero_le _, rfl, rfl, fun j hj => by omega⟩
  case round =>
    obtain ⟨k, hk, rfl, rfl, HO⟩ := hrel
    by_cases hlt : k < n
    · obtain ⟨b, rfl, hb, hc⟩ := HF.out k hlt
      obtain ⟨y, hy⟩ : ∃ y, l[k]?.getD 0 = y := ⟨_, rfl⟩
      rw [hy] at hc
      have HY := Lib.hid hy
      clear hy
      by_cases hyx : y = x
      · have HT : Hid (decide (x ∈ l) = true) := by
          refine decide_eq_true ?_
          rw [← hyx, ← HY.out, List.getElem?_eq_getElem (by rw [HN.out]; exact hlt)]
          exact List.getElem_mem _
        subst hyx
        go_wp2_with fail
        go_ret
        exact ⟨by rw [HT.out]; rfl, rfl⟩
      · have hyb : (y == x) = false := beq_eq_false_iff_ne.2 hyx
        go_wp2_with fail
        go_roundw
        case rel =>
          refine ⟨k + 1, by omega, by go_num, trivial, fun j hj => ?_⟩
          by_cases e : j = k
          · rw [e, HY.out]; exact hyx
          · exact HO.out j (by omega)
        case measure => simp [intOf] <;> omega
    · have HT : Hid (decide (x ∈ l) = false) := by
        refine decide_eq_false fun h => ?_
        obtain ⟨j, hj, rfl⟩ := List.mem_iff_getElem.1 h
        have := HO.out j (by rw [HN.out] at hj; omega)
        rw [List.getElem?_eq_getElem hj] at this
        exact this rfl
      have hnk : n ≤ k := by omega
      go_wp2_with fail
      go_ret
      exact ⟨by rw [HT.out]; rfl, rfl⟩
end Go.Proofs.Ytamkahjdedomlaa
namespace Go.Proofs.Ytamkahjdedomlaa
open Go.RowKit
set_option linter.unusedVariables false

/-- Times (1 + x z), cut at the length. -/
def modL (x : UInt8) (l : List UInt8) : List UInt8 := (List.range l.length).map fun k => if k = 0 then l[k]?.getD 0 else l[k]?.getD 0 ^^^ F.mulB x (l[k - 1]?.getD 0)
/-- From the top down to above r. -/
def modP (x : UInt8) (l : List UInt8) (r : Nat) : List UInt8 := (List.range l.length).map fun k => if r < k then l[k]?.getD 0 ^^^ F.mulB x (l[k - 1]?.getD 0) else l[k]?.getD 0
theorem modP_len (x : UInt8) (l : List UInt8) (r : Nat) : (modP x l r).length = l.length := by unfold modP; simp
theorem modL_len (x : UInt8) (l : List UInt8) : (modL x l).length = l.length := by unfold modL; simp
theorem modP_get (x : UInt8) (l : List UInt8) (r k : Nat) (hk : k < l.length) : (modP x l r)[k]?.getD 0 = if r < k then l[k]?.getD 0 ^^^ F.mulB x (l[k - 1]?.getD 0) else l[k]?.getD 0 := by
  unfold modP; rw [List.getElem?_map, List.getElem?_range hk]; rfl
theorem ext_getD {a b : List UInt8} (hl : a.length = b.length) (h : ∀ k, k < a.length → a[k]?.getD 0 = b[k]?.getD 0) : a = b := List.ext_getElem hl fun k h1 h2 => by
  have := h k h1
  rw [List.getElem?_eq_getElem h1, List.getElem?_eq_getElem h2] at this
  exact this
theorem set_getD (l : List UInt8) (r k : Nat) (v : UInt8) (hk : k < l.length) : (l.set r v)[k]?.getD 0 = if r = k then v else l[k]?.getD 0 := by
  rw [List.getElem?_set]
  by_cases e : r = k
  · subst e; rw [if_pos rfl, if_pos hk, if_pos rfl]; rfl
  · rw [if_neg e, if_neg e]
theorem modP_top (x : UInt8) (l : List UInt8) (r : Nat) (h : l.length ≤ r + 1) : modP x l r = l := by
  refine ext_getD (modP_len x l r) fun k hk => ?_
  rw [modP_len] at hk
  rw [modP_get x l r k hk, if_neg (by omega)]
theorem modP_step (x : UInt8) (l : List UInt8) (r : Nat) (h0 : 0 < r) (h : r < l.length) : (modP x l r).set r (l[r]?.getD 0 ^^^ F.mulB x (l[r - 1]?.getD 0)) = modP x l (r - 1) := by
  refine ext_getD (by rw [List.length_set, modP_len, modP_len]) fun k hk => ?_
  rw [List.length_set, modP_len] at hk
  rw [set_getD _ _ _ _ (by rw [modP_len]; exact hk), modP_get x l r k hk, modP_get x l (r - 1) k hk]
  by_cases e : r = k
  · rw [if_pos e, if_pos (by omega), e]
  · rw [if_neg e]
    by_cases c : r < k
    · rw [if_pos c, if_pos (by omega)]
    · rw [if_neg c, if_neg (by omega)]
theorem modP_all (x : UInt8) (l : List UInt8) : modP x l 0 = modL x l := by
  unfold modP modL
  refine List.map_congr_left fun k _ => ?_
  by_cases c : k = 0
  · rw [if_pos c, if_neg (by omega)]
  · rw [if_neg c, if_pos (by omega)]
def modTo (n : Nat) (lost : List Int) (syn : List UInt8) : Nat → List UInt8
  | 0 => syn
  | j + 1 => modL (F.expB (n - 1 - (lost[j]?.getD 0).toNat)) (modTo n lost syn j)
theorem modTo_len (n : Nat) (lost : List Int) (syn : List UInt8) (j : Nat) : (modTo n lost syn j).length = syn.length := by
  induction j with
  | zero => rfl
  | succ j ih => show (modL _ _).length = _; rw [modL_len, ih]
set_option maxRecDepth 100000 in
set_option maxHeartbeats 2000000 in
theorem modified_any (g cap n p : Nat) (syn : List UInt8) (vl : Value) (lost : List Int) (w : World) (hs : Cells w g syn) (hp : syn.length = p) (hp1 : 1 ≤ p) (hp2 : p ≤ 64) (hn : n ≤ 255)
    (hl : RdI w vl lost) (hll : lost.length ≤ 100000) (hin : ∀ x ∈ lost, 0 ≤ x ∧ x < (n : Int)) :
    Calls Try.prog 37 #[.slice (some ⟨g, 0, none⟩) p cap, .int .i64 n, vl] w fun e w' => ∃ v', e = .returned v' ∧ Sl w' w.heap.size v' (modTo n lost syn lost.length) ∧ Below w.heap.size w w' := by
  obtain ⟨al, ol, cl, rfl, hf⟩ := hl.form
  obtain ⟨s, hsn⟩ : ∃ s, lost.length = s := ⟨_, rfl⟩
  rw [hsn] at hf hll ⊢
  have HF := Lib.hid hf
  have HSN := Lib.hid hsn
  have HIN := Lib.hid hin
  have HS := Lib.hid hs
  have HP := Lib.hid hp
  clear hf hsn hin hs hp hl
  go_enter Try.func37, Try.ntmps37
  go_wp2_with (at_builtin; refine wpList_append_bytes rfl _ _ 33 5 rfl Try.underlying33 Try.infoU8 w.heap.size _ [] rfl (World.ownsRow_lit w #[] 0 (Nat.le_refl _) (by unfold maxLen; omega) rfl) (by simp) g p cap syn rfl HP.out (HS.out.alloc _) (by rw [HP.out]; simp; omega) ?_; intro v1 w1 ho1 hgr1)
  have hsl : Sl w1 w.heap.size v1 syn := sl_of_owns (e := 5) ho1
  have hb1 : Below w.heap.size w w1 := ((Below.refl _ w).alloc (Nat.le_refl _) _).grown hgr1 (by simp) (fun j hj => by cases hj; exact Nat.le_refl _)
  rcases hsl with ⟨_, _, _, hnil⟩ | ⟨g1, cap1, rfl, hne, hc1, hc2, hg1, hC1⟩
  · rw [hnil] at HP; have := HP.out; simp at this; omega
  rw [HP.out] at hc1 ⊢
  have HC1 := Lib.hid hC1
  have HB1 := Lib.hid hb1
  clear ho1 hgr1 hC1 hb1 hne
  go_wp2_with fail
  go_loopw [17] (fun v17 wr => ∃ j : Nat, j ≤ s ∧ v17 = .int .i64 j ∧ Hid (Cells wr g1 (modTo n lost syn j) ∧ Below w.heap.size w wr)) (fun v17 _ => s - (intOf v17).toNat)
  case atStart => exact ⟨0, Nat.zero_le _, rfl, HC1.out, HB1.out⟩
  case round =>
    clear HC1 HB1
    obtain ⟨j, hj, rfl, HR⟩ := hrel
    obtain ⟨wo, rfl⟩ : ∃ x : World, x = wr := ⟨_, rfl⟩
    have HL0 := Lib.hid (modTo_len n lost syn j)
    by_cases hlt : j < s
    · obtain ⟨b, rfl, hb, hc⟩ := HF.out j hlt
      have hc' := (HR.out.2.cell (p := ⟨b, ol + j, none⟩) hb).trans hc
      obtain ⟨i, hi⟩ : ∃ i : Nat, lost[j]?.getD 0 = i := ⟨(lost[j]?.getD 0).toNat, by
        have := HIN.out (lost[j]?.getD 0) (by rw [List.getElem?_eq_getElem (by rw [HSN.out]; exact hlt)]; exact List.getElem_mem _)
        omega⟩
      have hin' : i < n := by
        have := HIN.out (lost[j]?.getD 0) (by rw [List.getElem?_eq_getElem (by rw [HSN.out]; exact hlt)]; exact List.getElem_mem _)
        omega
      rw [hi] at hc'
      have HST : Hid (modTo n lost syn (j + 1) = modL (F.expB (n - 1 - i)) (modTo n lost syn j)) := by
        unfold Hid
        show modL (F.expB (n - 1 - (lost[j]?.getD 0).toNat)) _ = _
        rw [hi]; rfl
      clear hc hi
      go_wp2_with fail
      refine (element_any i n hin' hn _).mono ?_
      rintro e w2 ⟨rfl, rfl⟩
      obtain ⟨x, hx⟩ : ∃ x, F.expB (n - 1 - i) = x := ⟨_, rfl⟩
      obtain ⟨L, hL⟩ : ∃ L, modTo n lost syn j = L := ⟨_, rfl⟩
      rw [hx, hL] at HST
      rw [hL] at HR HL0
      rw [HP.out] at HL0
      rw [hx]
      have hp0 : (p : Int) - 1 = ((p - 1 : Nat) : Int) := by omega
      obtain ⟨p1, hp1e⟩ : ∃ p1, p - 1 = p1 := ⟨_, rfl⟩
      rw [hp1e] at hp0
      have ep1 : IntKind.i64.wrap ((p : Int) - 1) = (p1 : Int) := by rw [hp0]; exact IntWalk.i64_in _ (by omega)
      have HPE := Lib.hid hp1e
      clear hx hL hc' hp0 hp1e
      go_wp2_with fail
      clear ep1
      go_loopw [11] (fun v11 wr => ∃ r : Nat, r ≤ p1 ∧ v11 = .int .i64 r ∧ Hid (Cells wr g1 (modP x L r) ∧ Below w.heap.size w wr)) (fun v11 _ => (intOf v11).toNat)
      case atStart => exact ⟨p1, Nat.le_refl _, rfl, by rw [modP_top x L p1 (by rw [HL0.out, ← HPE.out]; omega)]; exact HR.out.1, HR.out.2⟩
      case round =>
        clear HR
        obtain ⟨r, hr, rfl, HI⟩ := hrel
        obtain ⟨wi, rfl⟩ : ∃ x : World, x = wr := ⟨_, rfl⟩
        have hrp : r < p := by have := HPE.out; omega
        by_cases hr0 : 0 < r
        · obtain ⟨q, hq⟩ : ∃ q, r - 1 = q := ⟨_, rfl⟩
          have hcr := HI.out.1.at r (by rw [modP_len, HL0.out]; exact hrp)
          have hfr := HI.out.1.free r (by rw [modP_len, HL0.out]; exact hrp)
          have hcq := HI.out.1.at q (by rw [modP_len, HL0.out]; omega)
          rw [modP_get x L r r (by rw [HL0.out]; exact hrp), if_neg (by omega)] at hcr
          rw [modP_get x L r q (by rw [HL0.out]; omega), if_neg (by omega)] at hcq
          have HSt := Lib.hid (modP_step x L r hr0 (by rw [HL0.out]; exact hrp))
          rw [hq] at HSt
          have HLm : Hid ((modP x L r).length = p) := by unfold Hid; rw [modP_len, HL0.out]
          obtain ⟨y, hy⟩ : ∃ y, L[r]?.getD 0 = y := ⟨_, rfl⟩
          obtain ⟨z, hz⟩ : ∃ z, L[q]?.getD 0 = z := ⟨_, rfl⟩
          rw [hy] at hcr HSt
          rw [hz] at hcq HSt
          obtain ⟨t, ht⟩ : ∃ t, F.mulB x z = t := ⟨_, rfl⟩
          rw [ht] at HSt
          obtain ⟨u, hu⟩ : ∃ u, y ^^^ t = u := ⟨_, rfl⟩
          rw [hu] at HSt
          have HTT := Lib.hid ht
          have hxs : bits .xor .u8 (y.toNat : Int) (t.toNat : Int) = (u.toNat : Int) := by rw [u8_xor_nat _ _ y.toNat_lt t.toNat_lt, ← hu, UInt8.toNat_xor]
          have eq1 : IntKind.i64.wrap ((r : Int) - 1) = (q : Int) := by rw [show (r : Int) - 1 = q by omega]; exact IntWalk.i64_in _ (by omega)
          have hqp : q < p := by omega
          have HQR : Hid (q + 1 = r) := by unfold Hid; omega
          clear hy hz ht hu hq
          go_wp2_with fail
          go_still_tail 15, (by kernel_rfl)
          still_call (rstill HTT _)
          repeat still_step
          refine wpStill_nil ?_
          change wpList _ _ _ _ _ wi.drew
          go_wp2
          go_roundw
          case rel => exact ⟨q, by have := HQR.out; omega, rfl, by rw [← HSt.out]; exact (HI.out.1.set r (by rw [HLm.out]; exact hrp) u).drew, (HI.out.2.setCell hg1 _).drew⟩
          case measure => simp [intOf] <;> (have := HQR.out; omega)
        · have hr0' : r = 0 := by omega
          have HI' : Hid (Cells wi g1 (modTo n lost syn (j + 1)) ∧ Below w.heap.size w wi) := by
            have := HI.out
            rw [hr0', modP_all] at this
            rw [HST.out]; exact this
          clear HI hr0'
          go_wp2_with fail
          go_roundw
          case rel => exact ⟨j + 1, by omega, by go_num, HI'.out⟩
          case measure => simp [intOf] <;> omega
    · have hje : j = s := by omega
      have HSl : Hid (Sl wo w.heap.size (.slice (some ⟨g1, 0, none⟩) p cap1) (modTo n lost syn s)) := by
        have := HR.out.1
        rw [hje] at this
        exact Sl.of_cells this hg1 (by rw [modTo_len, HP.out]; exact hc1) hc2 p (by rw [modTo_len, HP.out])
      have HB := Lib.hid HR.out.2
      have hjs : s ≤ j := by omega
      clear HR hje
      go_wp2_with fail
      go_ret
      exact ⟨_, rfl, HSl.out, HB.out⟩
end Go.Proofs.Ytamkahjdedomlaa
