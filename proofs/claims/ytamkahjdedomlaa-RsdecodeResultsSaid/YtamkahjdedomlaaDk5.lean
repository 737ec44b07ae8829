/-
  The walk of rsdecode.Decode.
-/
import Derived.Test.YtamkahjdedomlaaDk4
import Derived.Test.YtamkahjdedomlaaDecDef
import Derived.Test.YtamkahjdedomlaaIntsFn
import Derived.Deep.DeepCutAuto
namespace Go.Proofs.Ytamkahjdedomlaa
open Go.RowKit
set_option linter.unusedVariables false

theorem pmul_any2 (g1 g2 c1 c2 m n : Nat) (p q : List UInt8) (w : World) (hp : Cells w g1 p) (hq : Cells w g2 q) (hm : p.length = m) (hn : q.length = n) (hm1 : m ≤ 1000) (hn1 : n ≤ 1000) :
    Calls Try.prog 26 #[.slice (some ⟨g1, 0, none⟩) m c1, .slice (some ⟨g2, 0, none⟩) n c2] w fun e w' => ∃ v', e = .returned v' ∧ Sl w' w.heap.size v' (pmul p q) ∧ Below w.heap.size w w' := by
  subst hm hn; exact pmul_some g1 g2 c1 c2 p q w hp hq hm1 hn1
theorem exp_red (z : Int) (k : Nat) (hz : F.red z = k) (h1 : -9223372036854775808 ≤ z) (h2 : z ≤ 9223372036854775807) (w : World) : Calls Try.prog 27 #[.int .i64 z] w fun e w' => e = .returned (.int .u8 (F.expB k).toNat) ∧ Below w.heap.size w w' := by
  subst hz; exact exp_any z h1 h2 w
theorem exp_x (n k : Nat) (hn : n ≤ 255) (hk : k ≤ 255) (x : UInt8) (hx : Hid (xAt n k = x)) (w : World) : Calls Try.prog 27 #[.int .i64 (-((n : Int) - 1 - k))] w fun e w' => e = .returned (.int .u8 x.toNat) ∧ Below w.heap.size w w' := by
  rw [← hx.out]; exact exp_any _ (by omega) (by omega) w
theorem eval_r (v : Value) (p : List UInt8) (x y : UInt8) (w : World) (hy : Hid (evB p x = y)) (hv : Sl w 0 v p) (hz : p.length ≤ 100000) : Calls Try.prog 30 #[v, .int .u8 x.toNat] w fun e w' => e = .returned (.int .u8 y.toNat) ∧ Below w.heap.size w w' := by
  rw [← hy.out]
  exact (eval_any v p x w hv hz).mono fun e w' ⟨a, n, b⟩ => ⟨a, by rw [b]; exact bdN (Below.refl _ _) n⟩
theorem decMain_none (W : List UInt8) (p : Nat) (lost : List Int) (L OM SL : List UInt8) (n : Nat) (hn : W.length = n) (hL : locB (synB W p) (erTo W.length lost lost.length) = L) (hO : (pmul (synB W p) L).take p = OM) (hS : pderiv L = SL) (h : decTo L OM SL W n n = none) : decMain W p lost = ([], 0, 11) := by
  subst hn hL hO hS
  unfold decMain
  simp only [h]
theorem decMain_some (W : List UInt8) (p : Nat) (lost : List Int) (L OM SL o : List UInt8) (n r : Nat) (hn : W.length = n) (hL : locB (synB W p) (erTo W.length lost lost.length) = L) (hO : (pmul (synB W p) L).take p = OM) (hS : pderiv L = SL) (h : decTo L OM SL W n n = some (o, r)) :
    decMain W p lost = if r + 1 = L.length ∧ isCw o p = true ∧ radB p (wrongTo (diffs W o) lost (diffs W o).length) lost.length = true then (o, (diffs W o).length, 0) else ([], 0, 11) := by
  subst hn hL hO hS
  unfold decMain
  simp only [h]
theorem locate_r (s : ByteArray) (W o : List UInt8) (n : Nat) (hW : s.data.toList = W) (hs : s.size = n) (ho : o.length = n) (hz : n ≤ 1000) (w : World) :
    Calls Try.prog 10 #[.string s, .string ⟨o.toArray⟩] w fun e w' => ∃ v', e = .returned (.tuple #[v', .int .i64 0]) ∧ SlI w' w.heap.size v' (natI (diffs W o)) ∧ Below w.heap.size w w' := by
  have := locate_any s ⟨o.toArray⟩ n hs (by rw [← ho]; rfl) hz w
  rwa [hW] at this
theorem bsearch_r (v : Value) (l : List Int) (x : Int) (b : Bool) (hb : Hid (l.contains x = b)) (w : World) (hv : SlI w 0 v l) (hz : l.length ≤ 100000) (hs : l.Pairwise (· ≤ ·)) : Calls Try.prog 34 #[v, .int .i64 x] w fun e w' => ∃ k : Nat, e = .returned (.tuple #[.int .i64 k, .bool b]) ∧ Below w.heap.size w w' := by
  rw [← hb.out]
  exact (bsearch_ints v l x w hv hz hs).mono fun e w' ⟨k, a, q, c⟩ => ⟨k, a, by rw [c]; exact bdN (Below.refl _ _) q⟩
theorem natI_at (ds : List Nat) (k : Nat) : (natI ds)[k]?.getD 0 = ((ds[k]?.getD 0 : Nat) : Int) := by
  unfold natI
  rw [List.getElem?_map]
  cases ds[k]? <;> rfl
theorem iscw_r (o : List UInt8) (n p : Nat) (b : Bool) (h1 : 1 ≤ p) (ho : o.length = n) (hn : n ≤ 1000) (hb : Hid (isCw o p = b)) (w : World) : Calls Try.prog 20 #[.string ⟨o.toArray⟩, .int .i64 p] w fun e w' => e = .returned (.bool b) ∧ Below w.heap.size w w' := by
  have h := iscw_any ⟨o.toArray⟩ p (by omega) (by show o.toArray.size ≤ _; simp only [List.size_toArray]; unfold maxLen; omega) w
  rw [decide_eq_true (by omega : (1 : Int) ≤ p), Bool.true_and, Int.toNat_natCast] at h
  rw [← hb.out]; exact h
theorem radius_r (p e s : Nat) (b : Bool) (hp : p ≤ 1000) (he : e ≤ 1000) (hs : s ≤ 100000) (hb : Hid (radB p e s = b)) (w : World) : Calls Try.prog 13 #[.int .i64 p, .int .i64 e, .int .i64 s] w fun r w' => r = .returned (.bool b) ∧ w = w' := by
  rw [← hb.out]; exact radius_any p e s w (by omega) (by omega) (by omega) (by omega) (by omega) (by omega)
theorem SlI.form {w : World} {B : Nat} {v : Value} {l : List Int} (h : SlI w B v l) : ∃ a cap, v = .slice a l.length cap ∧ ∀ i, i < l.length → ∃ g, a = some ⟨g, 0, none⟩ ∧ B ≤ g ∧ CellsI w g l := by
  rcases h with ⟨a, cap, rfl, rfl⟩ | ⟨g, cap, h1, h2, h3, h4, h5, h6⟩
  · exact ⟨a, cap, rfl, fun i hi => by simp at hi⟩
  · exact ⟨_, cap, h1, fun i hi => ⟨g, rfl, h5, h6⟩⟩
theorem Sl.form {w : World} {B : Nat} {v : Value} {l : List UInt8} (h : Sl w B v l) : ∃ a cap, v = .slice a l.length cap ∧ ∀ i, i < l.length → ∃ g, a = Option.some ⟨g, 0, none⟩ ∧ B ≤ g ∧ l.length ≤ cap ∧ cap ≤ maxLen ∧ Cells w g l := by
  rcases h with ⟨a, cap, rfl, rfl⟩ | ⟨g, cap, h1, h2, h3, h4, h5, h6⟩
  · exact ⟨a, cap, rfl, fun i hi => by simp at hi⟩
  · exact ⟨_, cap, h1, fun i hi => ⟨g, rfl, h5, h3, h4, h6⟩⟩

set_option maxRecDepth 100000 in
theorem decode_err (s : ByteArray) (p : Int) (c : Int) (ev : Value) (hc : (c == 0) = false) (w : World) (h : ∀ w, Calls Try.prog 22 #[.string s, .int .i64 p] w fun e w' => e = .returned (.tuple #[.slice none 0 0, .int .i64 c]) ∧ w = w') :
    Calls Try.prog 16 #[.string s, .int .i64 p, ev] w fun e w' => e = .returned (.tuple #[.string ⟨#[]⟩, .int .i64 0, .int .i64 1]) ∧ w = w' := by
  have H := Lib.hid h
  have hc' : (c != 0) = true := by rw [bne, hc]; rfl
  clear h
  go_enter Try.func16, Try.ntmps16
  go_wp2_with fail
  refine (H.out _).mono ?_
  rintro e w' ⟨rfl, rfl⟩
  go_wp2
  go_ret3
  exact ⟨rfl, rfl⟩

set_option maxRecDepth 100000 in
set_option maxHeartbeats 8000000 in
theorem decode_ok (s : ByteArray) (W : List UInt8) (n p : Nat) (ev : Value) (zs : List Int) (w : World) (hW : s.data.toList = W) (hn : s.size = n) (h1 : 1 ≤ p) (h2 : p ≤ 64) (h3 : p ≤ n) (h4 : n ≤ 255) (hE : RdI w ev zs) (hzs : zs.length ≤ 100000) :
    Calls Try.prog 16 #[.string s, .int .i64 p, ev] w fun e w' => e = .returned (.tuple #[.string ⟨(decOk W p (lostB zs)).1.toArray⟩, .int .i64 (decOk W p (lostB zs)).2.1, .int .i64 (decOk W p (lostB zs)).2.2]) ∧ Below w.heap.size w w' := by
  have hsyn := fun w => syn_ok s p h1 h2 (by rw [hn]; exact h3) (by rw [hn]; exact h4) w
  rw [hW] at hsyn
  have hWn : W.length = n := by rw [← hW, ← hn]; rfl
  have HSyn := Lib.hid hsyn
  have HE := Lib.hid hE
  have HW := Lib.hid hW
  have HN := Lib.hid hn
  have HWn := Lib.hid hWn
  have hsz1 : s.size ≤ 255 := by omega
  have hsz2 : p ≤ s.size := by omega
  have hsn : (s.size : Int) = n := by omega
  obtain ⟨lost, hlost⟩ : ∃ l, lostB zs = l := ⟨_, rfl⟩
  obtain ⟨D, hD⟩ : ∃ D, decOk W p lost = D := ⟨_, rfl⟩
  rw [hlost, hD]
  have HLost := Lib.hid hlost
  have HDec := Lib.hid hD
  have hll := lost_len zs
  rw [hlost] at hll
  have hll2 : lost.length ≤ 100000 := by omega
  clear hsyn hE hW hn hWn hlost hD hll
  go_enter Try.func16, Try.ntmps16
  go_wp2_with fail
  refine (HSyn.out _).mono ?_
  rintro e w1 ⟨gs, rfl, hgs, hCs, hB1⟩
  have HB1 := Lib.hid hB1
  have HCs := Lib.hid hCs
  clear hB1 hCs
  go_wp2_with fail
  refine (clone_ints ev zs _ (HE.out.kept HB1.out) hzs).mono ?_
  rintro e w2 ⟨v2, rfl, hs2, hb2⟩
  have HB2 := Lib.hid (bt HB1.out hb2)
  have HCs2 := Lib.hid (HCs.out.kept hb2)
  have HS2 := Lib.hid (hs2.mono HB1.out.size)
  have hgs2 : gs < w1.heap.size := HCs.out.1
  have HS2' := Lib.hid hs2
  clear hs2 hb2 HCs
  go_wp2_with fail
  refine (sort_ints w1.heap.size v2 zs _ HS2'.out hzs).mono ?_
  rintro e w3 ⟨rfl, hs3, hb3⟩
  have HB3 := Lib.hid (HB2.out.trans (hb3.mono HB1.out.size))
  have HCs3 := Lib.hid (HCs2.out.below hb3 hgs2)
  have HS3 := Lib.hid hs3
  clear hs3 hb3 HS2 HS2' HCs2 HB2
  go_wp2_with fail
  refine (compact_ints w1.heap.size v2 _ _ HS3.out (by rw [List.length_mergeSort]; exact hzs)).mono ?_
  rintro e w4 ⟨v4, rfl, hs4, hb4⟩
  have HB4 := Lib.hid (HB3.out.trans (hb4.mono HB1.out.size))
  have HCs4 := Lib.hid (HCs3.out.below hb4 hgs2)
  have hs4' : SlI w4 w1.heap.size v4 lost := by have := HLost.out; unfold lostB at this; rw [← this]; exact hs4
  have HS4 := Lib.hid hs4'
  clear hs4 hs4' hb4 HS3 HCs3 HB3
  obtain ⟨a4, cap4, hv4, hf4⟩ := HS4.out.form
  obtain ⟨nl, hnl⟩ : ∃ nl, lost.length = nl := ⟨_, rfl⟩
  rw [hnl] at hv4 hf4 hll2
  have HF4 := Lib.hid hf4
  have HNL := Lib.hid hnl
  subst hv4
  clear hf4 hnl
  go_wp2
  go_loopw [13, 58] (fun ev i wr => ∃ k : Nat, k ≤ nl ∧ i = .int .i64 k ∧ Hid (Sl wr w.heap.size ev (erTo n lost k) ∧ Below w.heap.size w wr ∧ Below w4.heap.size w4 wr ∧ ∀ j, j < k → inR n (lost[j]?.getD 0))) (fun _ i _ => nl - (intOf i).toNat)
  case atStart =>
    have hc1 := cells_one w4 1 5
    have hb41 := HB4.out.size
    exact ⟨0, Nat.zero_le _, rfl, (Sl.of_cells hc1 hb41 (by decide) (by unfold maxLen; omega) 1 rfl), HB4.out.alloc hb41 _, (Below.refl _ _).alloc (Nat.le_refl _) _, fun j hj => by omega⟩
  case round =>
    obtain ⟨k, hk, rfl, HR⟩ := hrel
    by_cases hlt : k < nl
    · obtain ⟨g4, rfl, hg4, hC4⟩ := HF4.out k hlt
      have hco := (hC4.kept HR.out.2.2.1).at k (by rw [HNL.out]; exact hlt)
      clear hC4
      obtain ⟨x, hx⟩ : ∃ x, lost[k]?.getD 0 = x := ⟨_, rfl⟩
      rw [hx] at hco
      have HX := Lib.hid hx
      clear hx
      by_cases hin : inR n x
      · obtain ⟨t, rfl⟩ : ∃ t : Nat, x = t := ⟨x.toNat, by have := hin.1; omega⟩
        have htn : t < n := by have := hin.2; omega
        have htn' : (t : Int) < n := by omega
        have hred : F.red ((n : Int) - 1 - t) = n - 1 - t := by unfold F.red; omega
        have HER := Lib.hid hred
        have hlen := er_len n lost k
        obtain ⟨ge, ce, rfl, hce1, hce2, hge, hCe⟩ := HR.out.1.some (by intro e; rw [e] at hlen; simp at hlen)
        have HCe := Lib.hid hCe
        obtain ⟨m, hm⟩ : ∃ m, (erTo n lost k).length = m := ⟨_, rfl⟩
        rw [hm] at hlen hce1 HR ⊢
        have hmk : m ≤ k + 1 := by omega
        have HM := Lib.hid hm
        have hk255 : k ≤ 255 := Nat.le_trans (sorted_room lost (by have := lost_lt zs; rwa [HLost.out] at this) n k (by rw [HNL.out]; exact hk) HR.out.2.2.2) h4
        clear hm hlen hred hin hCe
        go_wp2_with fail
        refine (exp_red _ _ HER.out (by omega) (by omega) _).mono ?_
        rintro e w5 ⟨rfl, hb5⟩
        have HB5 := Lib.hid hb5
        clear hb5
        obtain ⟨y, hy⟩ : ∃ y, F.expB (n - 1 - t) = y := ⟨_, rfl⟩
        rw [hy]
        have HY := Lib.hid hy
        clear hy
        go_wp2_with fail
        refine (pmul_any2 ge w5.heap.size ce 2 m 2 (erTo n lost k) [1, y] _ ((HCe.out.kept HB5.out).alloc _) (cells_two w5 1 y 5) HM.out rfl (by omega) (by omega)).mono ?_
        rintro e w6 ⟨v6, rfl, hs6, hb6⟩
        have hz5 := HB5.out.size
        have hzw := HR.out.2.1.size
        have hz4 := HR.out.2.2.1.size
        have HB56 : Hid (Below wr.heap.size wr w6) := (HB5.out.trans (((Below.refl _ w5).alloc hz5 _))).trans (hb6.mono (by simp; omega))
        have HS6 : Hid (Sl w6 w.heap.size v6 (erTo n lost (k + 1))) := by
          have : erTo n lost (k + 1) = pmul (erTo n lost k) [1, y] := by
            show pmul _ [1, F.expB (n - 1 - (lost[k]?.getD 0).toNat)] = _
            rw [HX.out, Int.toNat_natCast, HY.out]
          unfold Hid; rw [this]; exact hs6.mono (by simp; omega)
        clear hs6 hb6 hz5 hzw hz4
        go_wp2
        go_roundw
        case rel =>
          refine ⟨k + 1, by omega, by go_num, HS6.out, bt HR.out.2.1 HB56.out, bt HR.out.2.2.1 HB56.out, fun j hj => ?_⟩
          by_cases e : j = k
          · subst e; rw [HX.out]; exact ⟨by omega, htn'⟩
          · exact HR.out.2.2.2 j (by omega)
        case measure => simp [intOf] <;> omega
      · have hD0 : D = ([], 0, 1) := by
          rw [← HDec.out]
          exact decOk_out W p n k lost HWn.out (by rw [HNL.out]; exact hlt) (by rw [HX.out]; exact hin)
        subst hD0
        by_cases hx0 : x < 0
        · clear hin
          go_wp2
          go_ret3
          exact ⟨rfl, HR.out.2.1⟩
        · have hxn : (n : Int) ≤ x := by unfold inR at hin; omega
          clear hin
          go_wp2
          go_ret3
          exact ⟨rfl, HR.out.2.1⟩
    · have HK : Hid (k = nl) := by unfold Hid; omega
      have hknl : nl ≤ k := by omega
      have hDin : D = if p < nl then ([], 0, 11) else decMain W p lost := by
        rw [← HDec.out, ← HNL.out]
        refine decOk_in W p n lost HWn.out fun j hj => HR.out.2.2.2 j ?_
        rw [HK.out, ← HNL.out]; exact hj
      by_cases hbig : p < nl
      · rw [if_pos hbig] at hDin
        subst hDin
        go_wp2
        go_ret3
        exact ⟨rfl, HR.out.2.1⟩
      · rw [if_neg hbig] at hDin
        have HDM := Lib.hid hDin
        have hnp : nl ≤ p := by omega
        clear hDin HDec hbig
        have hlen := er_len n lost k
        obtain ⟨ge, ce, rfl, hce1, hce2, hge, hCe⟩ := HR.out.1.some (by intro e; rw [e] at hlen; simp at hlen)
        have HCe := Lib.hid hCe
        obtain ⟨m, hm⟩ : ∃ m, (erTo n lost k).length = m := ⟨_, rfl⟩
        rw [hm] at hlen hce1 HR ⊢
        have HM := Lib.hid hm
        have hmn : m = nl + 1 := by omega
        have HMN := Lib.hid hmn
        have hz4 := HR.out.2.2.1.size
        have HCsr := Lib.hid (HCs4.out.kept HR.out.2.2.1)
        have HBr := Lib.hid HR.out.2.1
        have HB4r := Lib.hid HR.out.2.2.1
        clear hm hlen hCe hmn
        go_wp2_with fail
        refine (locator_any gs ge p ce p m nl (synB W p) (erTo n lost k) _ HCsr.out HCe.out (synB_len _ _) HM.out HMN.out hnp h2 hce1 hce2 (er_top n lost k).2.2).mono ?_
        rintro e w5 ⟨v5, rfl, hs5, hb5⟩
        obtain ⟨L, hL⟩ : ∃ L, locB (synB W p) (erTo n lost k) = L := ⟨_, rfl⟩
        have hL0 : co L 0 = 1 := by rw [← hL]; exact locB_zero _ _ nl (by rw [HM.out]; exact HMN.out) (er_top n lost k).2.2
        have hLl : L.length ≤ p + 1 := by
          have := locB_len (synB W p) (erTo n lost k) nl (by rw [HM.out]; exact HMN.out) (er_top n lost k).2.2 (by rw [synB_len]; exact hnp)
          rwa [hL, synB_len] at this
        rw [hL] at hs5
        have HL : Hid (locB (synB W p) (erTo W.length lost lost.length) = L) := by
          unfold Hid; rw [HWn.out, HNL.out, ← HK.out]; exact hL
        obtain ⟨gl, cl, rfl, hcl1, hcl2, hgl, hCl⟩ := hs5.some (co_ne_nil L 0 (by rw [hL0]; exact F.one_ne_zero))
        obtain ⟨q, hq⟩ : ∃ q, L.length = q := ⟨_, rfl⟩
        have hq1 : 1 ≤ q := by
          by_cases e : q = 0
          · exfalso
            have : L = [] := List.eq_nil_of_length_eq_zero (by omega)
            rw [this] at hL0
            exact F.one_ne_zero (hL0.symm.trans (co_out _ _ (by simp)))
          · omega
        rw [hq] at hLl hcl1 ⊢
        have HQ := Lib.hid hq
        have HCl := Lib.hid hCl
        have HB5 := Lib.hid (bt HBr.out hb5)
        have HB45 := Lib.hid (bt HB4r.out hb5)
        have HCs5 := Lib.hid (HCsr.out.kept hb5)
        clear hs5 hb5 hq hCl hL hL0 HR HCe HCsr HM HMN
        go_wp2_with fail
        refine (pmul_any2 gs gl p cl p q (synB W p) L _ HCs5.out HCl.out (synB_len _ _) HQ.out (by omega) (by omega)).mono ?_
        rintro e w6 ⟨v6, rfl, hs6, hb6⟩
        obtain ⟨a6, cap6, hv6, hf6⟩ := hs6.form
        have HS6 := Lib.hid hs6
        have HB6 := Lib.hid (bt HB5.out hb6)
        have HB46 := Lib.hid (bt HB45.out hb6)
        have HCl6 := Lib.hid (HCl.out.kept hb6)
        have hpm := trim_len_le (mulOut (synB W p) L (synB W p).length) (p + q) (fun i hi => co_out _ _ (by rw [mulOut_len, synB_len, HQ.out]; exact hi))
        have hpm' : (pmul (synB W p) L).length ≤ p + q := hpm
        obtain ⟨r6, hr6⟩ : ∃ r, (pmul (synB W p) L).length = r := ⟨_, rfl⟩
        rw [hr6] at hv6 hf6 hpm'
        have HF6 := Lib.hid hf6
        have HR6 := Lib.hid hr6
        subst hv6
        have hz5w : w.heap.size ≤ w5.heap.size := HB5.out.size
        clear hs6 hb6 hf6 hr6 hpm
        go_upto_if 91 with (fail)
        go_cut [17] (fun v17 wx => Hid (Sl w6 w.heap.size v17 ((pmul (synB W p) L).take p)) ∧ w6 = wx)
        case first =>
          by_cases hlong : p < r6
          · obtain ⟨g6, rfl, hg6, hc6, hm6, hC6⟩ := HF6.out p hlong
            have hpc : p ≤ cap6 := by omega
            have hst : Hid (Sl w6 w.heap.size (.slice (some ⟨g6, 0, none⟩) p cap6) ((pmul (synB W p) L).take p)) := Sl.take hC6 (by omega) (by rw [HR6.out]; exact hc6) hm6 p (by rw [HR6.out]; omega)
            clear hC6
            go_wp2
            go_meet
            exact ⟨hst, rfl⟩
          · have hst : Hid (Sl w6 w.heap.size (.slice a6 r6 cap6) ((pmul (synB W p) L).take p)) := by
              unfold Hid; rw [List.take_of_length_le (by rw [HR6.out]; omega)]; exact HS6.out.mono hz5w
            go_wp2
            go_meet
            exact ⟨hst, rfl⟩
        case rest =>
          obtain ⟨HOm, rfl⟩ := hcut
          go_wp2_with fail
          refine (deriv_any gl cl q L _ HCl6.out HQ.out hq1 (by omega)).mono ?_
          rintro e w7 ⟨v8, rfl, hs8, hb7⟩
          have HS8 := Lib.hid hs8
          have HB7 := Lib.hid (bt HB6.out hb7)
          have HB47 := Lib.hid (bt HB46.out hb7)
          have HCl7 := Lib.hid (HCl6.out.kept hb7)
          have HOm7 := Lib.hid (HOm.out.kept hb7)
          have hz7 := HB7.out.size
          have hz67 := hb7.size
          clear hs8 hb7 HCl6 HCl HOm
          obtain ⟨OM, hOM⟩ : ∃ o, (pmul (synB W p) L).take p = o := ⟨_, rfl⟩
          obtain ⟨SL, hSL⟩ : ∃ o, pderiv L = o := ⟨_, rfl⟩
          have hOMl : OM.length ≤ 64 := by rw [← hOM, List.length_take]; omega
          have hSLl : SL.length ≤ 66 := by
            rw [← hSL]
            refine Nat.le_trans (trim_le _) ?_
            rw [derL_len, HQ.out]; omega
          rw [hOM] at HOm7
          rw [hSL] at HS8
          have HOM := Lib.hid hOM
          have HSL := Lib.hid hSL
          clear hOM hSL
          go_wp2_with (with_reducible refine wpList_bytes rfl _ _ _ 5 rfl Try.underlying9 Try.underlying33 Try.underlying5 s n HN.out rfl ?_; intro cap w8 hcap hC8 hb8 hz8; rw [HW.out] at hC8)
          have HC8 := Lib.hid hC8
          have HB8 := Lib.hid (HB7.out.trans (hb8.mono hz7))
          have HB78 := Lib.hid hb8
          clear hC8 hb8
          go_loopw [20, 101] (fun rv i wr => ∃ (k r : Nat) (o : List UInt8), k ≤ n ∧ i = .int .i64 k ∧ rv = .int .i64 r ∧ Hid (decTo L OM SL W n k = some (o, r) ∧ Cells wr w7.heap.size o ∧ Below w.heap.size w wr ∧ Below w7.heap.size w7 wr)) (fun _ i _ => n - (intOf i).toNat)
          case atStart => exact ⟨0, 0, W, Nat.zero_le _, rfl, rfl, rfl, HC8.out, HB8.out, HB78.out⟩
          case round =>
            obtain ⟨k2, r, o, hk2, rfl, rfl, HR2⟩ := hrel
            obtain ⟨ol, ore⟩ := decTo_len HR2.out.1
            rw [HWn.out] at ol
            have HOL := Lib.hid ol
            clear ol HC8 HB8 HB78
            by_cases hlt2 : k2 < n
            · have hL7 : Hid (Sl wr 0 (.slice (some ⟨gl, 0, none⟩) q cl) L) := (Sl.of_cells (HCl7.out.kept HR2.out.2.2.2) (Nat.zero_le _) (by rw [HQ.out]; exact hcl1) hcl2 _ HQ.out)
              obtain ⟨x, hx⟩ : ∃ x, xAt n k2 = x := ⟨_, rfl⟩
              have HX := Lib.hid hx
              obtain ⟨y, hy⟩ : ∃ y, evB L x = y := ⟨_, rfl⟩
              have HY := Lib.hid hy
              clear hx hy
              go_wp2_with fail
              refine (exp_x n k2 h4 (by omega) x HX _).mono ?_
              rintro e w9 ⟨rfl, hb9⟩
              have HL9 := Lib.hid (hL7.out.kept hb9)
              have HB9 := Lib.hid hb9
              clear hb9 hL7
              go_wp2_with fail
              refine (eval_r _ L x y _ HY HL9.out (by rw [HQ.out]; omega)).mono ?_
              rintro e w10 ⟨rfl, hb10⟩
              have HB10 := Lib.hid (bt HB9.out hb10)
              clear hb10 HL9 HB9
              by_cases hy0 : y = 0
              · have hyt : ((y.toNat : Int) == 0) = true := u8_eq y 0 0 rfl hy0
                have hyf : ((y.toNat : Int) != 0) = false := by rw [bne, hyt]; rfl
                have HY0 : Hid (evB L (xAt n k2) = 0) := by unfold Hid; rw [HX.out, HY.out]; exact hy0
                clear hy0
                have hred : F.red ((n : Int) - 1 - k2) = n - 1 - k2 := by unfold F.red; omega
                have HER := Lib.hid hred
                clear hred
                obtain ⟨z, hz⟩ : ∃ z, F.expB (n - 1 - k2) = z := ⟨_, rfl⟩
                obtain ⟨u, hu⟩ : ∃ u, evB OM x = u := ⟨_, rfl⟩
                obtain ⟨v, hv⟩ : ∃ v, evB SL x = v := ⟨_, rfl⟩
                have HZ := Lib.hid hz
                have HU := Lib.hid hu
                have HV := Lib.hid hv
                clear hz hu hv
                go_wp2_with fail
                refine (exp_red _ _ HER.out (by omega) (by omega) _).mono ?_
                rintro e w11 ⟨rfl, hb11⟩
                rw [HZ.out]
                have HB11 := Lib.hid (bt HB10.out hb11)
                clear hb11
                go_wp2_with fail
                refine (eval_r _ OM x u _ HU (((HOm7.out.kept HR2.out.2.2.2).kept HB11.out).mono (Nat.zero_le _)) (by omega)).mono ?_
                rintro e w12 ⟨rfl, hb12⟩
                have HB12 := Lib.hid (bt HB11.out hb12)
                clear hb12
                go_wp2_with fail
                refine (mul_any z u _).mono ?_
                rintro e w13 ⟨rfl, rfl⟩
                go_wp2_with fail
                refine (eval_r _ SL x v _ HV (((HS8.out.kept HR2.out.2.2.2).kept HB12.out).mono (Nat.zero_le _)) (by omega)).mono ?_
                rintro e w14 ⟨rfl, hb14⟩
                have HB14 := Lib.hid (bt HB12.out hb14)
                clear hb14
                by_cases hv0 : v = 0
                · subst hv0
                  have hnone : D = ([], 0, 11) := by
                    rw [HDM.out]
                    exact decMain_none W p lost L OM SL n HWn.out HL.out HOM.out HSL.out (decTo_none (decTo_fail HR2.out.1 HY0.out (by rw [HX.out]; exact HV.out)) n (by omega))
                  subst hnone
                  have hdz := fun w => div_z (F.mulB z u) w
                  have HDZ := Lib.hid hdz
                  clear hdz
                  go_wp2_with fail
                  refine (HDZ.out _).mono ?_
                  rintro e w15 ⟨rfl, hb15⟩
                  have HB15 := Lib.hid (bt HR2.out.2.2.1 (bt HB14.out hb15))
                  clear hb15
                  go_wp2
                  go_ret3
                  exact ⟨rfl, HB15.out⟩
                · have HV0 := Lib.hid hv0
                  clear hv0
                  go_wp2_with fail
                  refine (div_nz (F.mulB z u) v HV0.out _).mono ?_
                  rintro e w15 ⟨rfl, hb15⟩
                  have HB15 := Lib.hid (bt HB14.out hb15)
                  clear hb15
                  obtain ⟨t, ht⟩ : ∃ t, F.divB (F.mulB z u) v = t := ⟨_, rfl⟩
                  have HFo : Hid (forney OM SL n k2 = t) := by unfold Hid forney; rw [HX.out, HU.out, HV.out, HZ.out]; exact ht
                  rw [ht]
                  clear ht
                  have hC15 := HR2.out.2.1.kept HB15.out
                  have hco := hC15.at k2 (by rw [HOL.out]; exact hlt2)
                  have hfo := hC15.free k2 (by rw [HOL.out]; exact hlt2)
                  obtain ⟨o2, ho2⟩ : ∃ o2, o[k2]?.getD 0 = o2 := ⟨_, rfl⟩
                  obtain ⟨o3, ho3⟩ : ∃ o3, o2 ^^^ t = o3 := ⟨_, rfl⟩
                  rw [ho2] at hco
                  have HC15 := Lib.hid hC15
                  have HO2 := Lib.hid ho2
                  have HO3 := Lib.hid ho3
                  clear hC15 ho2 ho3
                  go_wp2_with fail
                  refine (add_r o2 t o3 HO3 _).mono ?_
                  rintro e w16 ⟨rfl, rfl⟩
                  have hstep : Hid (decTo L OM SL W n (k2 + 1) = some (o.set k2 o3, r + 1)) := by
                    unfold Hid
                    rw [decTo_hit HR2.out.1 HY0.out (by rw [HX.out, HV.out]; exact HV0.out), HFo.out, HO2.out, HO3.out]
                  go_wp2
                  go_roundw
                  case rel => exact ⟨k2 + 1, r + 1, o.set k2 o3, by omega, by go_num, by go_num, hstep.out, HC15.out.set k2 (by rw [HOL.out]; exact hlt2) o3, (bt HR2.out.2.2.1 HB15.out).setCell hz7 _, (bt HR2.out.2.2.2 HB15.out).setCell (Nat.le_refl _) _⟩
                  case measure => simp [intOf] <;> omega
              · have hyf : ((y.toNat : Int) == 0) = false := u8_ne y 0 0 rfl hy0
                have hyt : ((y.toNat : Int) != 0) = true := by rw [bne, hyf]; rfl
                have HY0 : Hid (evB L (xAt n k2) ≠ 0) := by unfold Hid; rw [HX.out, HY.out]; exact hy0
                clear hy0
                go_wp2
                go_roundw
                case rel => exact ⟨k2 + 1, r, o, by omega, by go_num, rfl, decTo_skip HR2.out.1 HY0.out, HR2.out.2.1.kept HB10.out, bt HR2.out.2.2.1 HB10.out, bt HR2.out.2.2.2 HB10.out⟩
                case measure => simp [intOf] <;> omega
            · have HK2 : Hid (k2 = n) := by unfold Hid; omega
              have hkn2 : n ≤ k2 := by omega
              have hr255 : r ≤ 255 := by omega
              obtain ⟨B, hBz⟩ : ∃ B, w7.heap.size = B := ⟨_, rfl⟩
              have hCo := HR2.out.2.1
              rw [hBz] at hCo ⊢
              have HBz := Lib.hid hBz
              have hstr := fun (w' : World) (h : Cells w' B o) => run_str (P := Try.prog) w' 33 9 5 B n cap o Try.underlying33 Try.underlying5 Try.underlying9 h HOL.out
              have hst := hstr wr hCo
              have HSTR := Lib.hid hstr
              have HCo := Lib.hid hCo
              have hDs : D = if r + 1 = L.length ∧ isCw o p = true ∧ radB p (wrongTo (diffs W o) lost (diffs W o).length) lost.length = true then (o, (diffs W o).length, 0) else ([], 0, 11) := by
                rw [HDM.out]
                exact decMain_some W p lost L OM SL o n r HWn.out HL.out HOM.out HSL.out (by have := HR2.out.1; rw [HK2.out] at this; exact this)
              rw [HQ.out, HNL.out] at hDs
              have HDs := Lib.hid hDs
              have HB7r := Lib.hid HR2.out.2.2.2
              have HBwr := Lib.hid HR2.out.2.2.1
              clear hDs hstr hCo hBz
              go_wp2_with fail
              refine (locate_r s W o n HW.out HN.out HOL.out (by omega) _).mono ?_
              rintro e w17 ⟨v17, rfl, hs17, hb17⟩
              obtain ⟨ds, hds⟩ : ∃ ds, diffs W o = ds := ⟨_, rfl⟩
              have hdl : ds.length ≤ 255 := by
                rw [← hds]; unfold diffs
                refine Nat.le_trans (List.length_filter_le _ _) ?_
                rw [List.length_range, HWn.out]; exact h4
              rw [hds] at hs17 HDs
              obtain ⟨a17, cap17, hv17, hf17⟩ := hs17.form
              obtain ⟨dn, hdn⟩ : ∃ dn, ds.length = dn := ⟨_, rfl⟩
              have hnl17 : (natI ds).length = dn := by unfold natI; rw [List.length_map]; exact hdn
              rw [hnl17] at hv17 hf17
              rw [hdn] at hdl HDs
              subst hv17
              have HF17 := Lib.hid hf17
              have HNL17 := Lib.hid hnl17
              have HB17 := Lib.hid (bt HBwr.out hb17)
              have HB4w := Lib.hid (bt (HB47.out.trans (HB7r.out.mono HB47.out.size)) hb17)
              have HCo17 := Lib.hid (HCo.out.kept hb17)
              have HL17 : Hid (SlI w17 0 (.slice a4 nl cap4) lost) := (HS4.out.kept HB4w.out).mono (Nat.zero_le _)
              clear hs17 hb17 hds hf17 hdn hnl17 hst
              go_wp2
              go_loopw [28, 151] (fun c i wx => ∃ k : Nat, k ≤ dn ∧ i = .int .i64 k ∧ c = .int .i64 (wrongTo ds lost k) ∧ Hid (Below w17.heap.size w17 wx)) (fun _ i _ => dn - (intOf i).toNat)
              case atStart => exact ⟨0, Nat.zero_le _, rfl, rfl, Below.refl _ _⟩
              case round =>
                obtain ⟨k3, hk3, rfl, rfl, HR3⟩ := hrel
                have hwl := wrongTo_le ds lost k3
                by_cases hlt3 : k3 < dn
                · obtain ⟨g17, rfl, hg17, hC17⟩ := HF17.out k3 hlt3
                  have hco := (hC17.kept HR3.out).at k3 (by rw [HNL17.out]; exact hlt3)
                  rw [natI_at] at hco
                  clear hC17
                  have HW3 : Hid (wrongTo ds lost (k3 + 1) = if lost.contains ((ds[k3]?.getD 0 : Nat) : Int) = true then wrongTo ds lost k3 else wrongTo ds lost k3 + 1) := rfl
                  obtain ⟨d, hd⟩ : ∃ d, ds[k3]?.getD 0 = d := ⟨_, rfl⟩
                  obtain ⟨c, hc⟩ : ∃ c, wrongTo ds lost k3 = c := ⟨_, rfl⟩
                  rw [hd] at hco HW3
                  rw [hc] at HW3 hwl ⊢
                  clear hd hc
                  obtain ⟨b, hb⟩ : ∃ b, lost.contains (d : Int) = b := ⟨_, rfl⟩
                  have HBb := Lib.hid hb
                  rw [hb] at HW3
                  clear hb
                  go_wp2_with fail
                  refine (bsearch_r _ lost d b HBb _ (HL17.out.kept HR3.out) (by rw [HNL.out]; exact hll2) (by have := lost_le zs; rwa [HLost.out] at this)).mono ?_
                  rintro e w18 ⟨kk, rfl, hb18⟩
                  have HB18 := Lib.hid (bt HR3.out hb18)
                  clear hb18
                  cases b with
                  | true =>
                    have HW3' : Hid (wrongTo ds lost (k3 + 1) = c) := by unfold Hid; rw [HW3.out, if_pos rfl]
                    clear HW3
                    go_wp2
                    go_roundw
                    case rel => exact ⟨k3 + 1, by omega, by go_num, by rw [HW3'.out], HB18⟩
                    case measure => simp [intOf] <;> omega
                  | false =>
                    have HW3' : Hid (wrongTo ds lost (k3 + 1) = c + 1) := by unfold Hid; rw [HW3.out, if_neg (by decide)]
                    clear HW3
                    go_wp2
                    go_roundw
                    case rel => exact ⟨k3 + 1, by omega, by go_num, by rw [HW3'.out]; go_num, HB18⟩
                    case measure => simp [intOf] <;> omega
                · have HK3 : Hid (k3 = dn) := by unfold Hid; omega
                  have hkd3 : dn ≤ k3 := by omega
                  obtain ⟨c, hc⟩ : ∃ c, wrongTo ds lost k3 = c := ⟨_, rfl⟩
                  have hc' : wrongTo ds lost dn = c := by rw [← HK3.out]; exact hc
                  rw [hc'] at HDs
                  rw [hc] at hwl ⊢
                  clear hc hc'
                  have HCo18 := Lib.hid (HCo17.out.kept HR3.out)
                  have hst := HSTR.out _ HCo18.out
                  by_cases hrq : r + 1 = q
                  · have h1e : ((r : Int) == (q : Int) - 1) = true := by rw [beq_iff_eq]; omega
                    have h1n : ((r : Int) != (q : Int) - 1) = false := by rw [bne, h1e]; rfl
                    have HRq := Lib.hid hrq
                    clear hrq
                    obtain ⟨b, hb⟩ : ∃ b, isCw o p = b := ⟨_, rfl⟩
                    have HBb := Lib.hid hb
                    rw [hb] at HDs
                    clear hb
                    go_wp2_with fail
                    refine (iscw_r o n p b h1 HOL.out (by omega) HBb _).mono ?_
                    rintro e w19 ⟨rfl, hb19⟩
                    have HB19 := Lib.hid (bt HB17.out (bt HR3.out hb19))
                    have HCo19 := Lib.hid (HCo18.out.kept hb19)
                    clear hb19 hst
                    cases b with
                    | false =>
                      have hD0 : D = ([], 0, 11) := by rw [HDs.out, if_neg (by rintro ⟨_, h, _⟩; exact absurd h (by decide))]
                      subst hD0
                      go_wp2
                      go_ret3
                      exact ⟨rfl, HB19.out⟩
                    | true =>
                      obtain ⟨b, hb⟩ : ∃ b, radB p c nl = b := ⟨_, rfl⟩
                      have HBr2 := Lib.hid hb
                      rw [hb] at HDs
                      clear hb
                      go_wp2_with fail
                      refine (radius_r p c nl b (by omega) (by omega) hll2 HBr2 _).mono ?_
                      rintro e w20 ⟨rfl, rfl⟩
                      cases b with
                      | false =>
                        have hD0 : D = ([], 0, 11) := by rw [HDs.out, if_neg (by rintro ⟨_, _, h⟩; exact absurd h (by decide))]
                        subst hD0
                        go_wp2
                        go_ret3
                        exact ⟨rfl, HB19.out⟩
                      | true =>
                        have hD0 : D = (o, dn, 0) := by rw [HDs.out, if_pos ⟨HRq.out, by first | exact trivial | rfl, by first | exact trivial | rfl⟩]
                        subst hD0
                        have hst := HSTR.out w19 HCo19.out
                        go_wp2
                        go_ret3
                        exact ⟨rfl, HB19.out⟩
                  · have h1e : ((r : Int) == (q : Int) - 1) = false := by rw [beq_eq_false_iff_ne]; omega
                    have h1n : ((r : Int) != (q : Int) - 1) = true := by rw [bne, h1e]; rfl
                    have hD0 : D = ([], 0, 11) := by rw [HDs.out, if_neg (by rintro ⟨h, _⟩; exact hrq h)]
                    subst hD0
                    clear hrq
                    have HB19 := Lib.hid (bt HB17.out HR3.out)
                    go_wp2
                    go_ret3
                    exact ⟨rfl, HB19.out⟩
end Go.Proofs.Ytamkahjdedomlaa
