/-
  The reference's Assess, walked.
-/
import Derived.Test.YtafididfgljfcaaROne
import Derived.Deep.RegionHeldLaw
import Derived.Maps.AppendAt
import Derived.BigQuiet
namespace Go.Proofs.Ytafididfgljfcaa
open Go.RowKit
set_option linter.unusedVariables false
/-- A slice of numbers at the head of a block. -/
def RIs (w : World) (v : Value) (R : List Int) (m : Nat) : Prop := R.length = m ∧ ∃ g c, v = .slice (some ⟨g, 0, none⟩) m c ∧ m ≤ c ∧ c ≤ maxLen ∧ CellsI w g R
theorem RIs.kept {w w' : World} {v : Value} {R : List Int} {m : Nat} (h : RIs w v R m) (hb : Below w.heap.size w w') : RIs w' v R m := by
  obtain ⟨h1, g, c, h2, h3, h4, h5⟩ := h
  exact ⟨h1, g, c, h2, h3, h4, h5.kept hb⟩
theorem RIs.of_owns {w : World} {base n : Nat} {e : TypeId} {v : Value} {l : List Int} (h : w.ownsRow base e 1 v n (l.map i64v)) (hn : l.length = n) (h0 : 0 < n) : RIs w v l n := by
  have h' := h
  rcases h.2 with ⟨hv, h1⟩ | ⟨g, cap, cur, hv, hb, hg, hnc, hcm, hcs, htake⟩
  · omega
  · subst hv
    exact ⟨hn, g, cap, rfl, hnc, hcm, owns_cellsI h' hn (Array.getElem?_eq_some_iff.1 hg).1⟩
theorem mem_take_int (l : List Int) (k : Nat) (x s : Int) (h : l[k]? = some x) : decide (s ∈ l.take (k + 1)) = (decide (s ∈ l.take k) || decide (x = s)) := by
  rw [← Bool.decide_or]
  exact decide_eq_decide.2 (mem_take_succ l k x s h)
theorem belowA_own {w w' : World} {w0 : World} {base B n size : Nat} {e : TypeId} {v : Value} {cs : List Value} (h0 : Below B w0 w) (hown : w.ownsRow base e size v n cs) (hg : w.grownBy w' v.ownBlock) (hb : B ≤ base) (hs : base ≤ w.heap.size) : Below B w0 w' :=
  belowS_grown h0 hown hg (Nat.le_trans hb hs) hb
/-- append of numbers to numbers of the call's own, as a step of a region that draws. -/
theorem step_append_I {P : Program} {ops : Array Oper} {o : Oper} {a : Act} {w : World} {K : Act → World → Prop} {Q : Exit → Act → World → Prop} {E : Prop}
    (hg : o.guard = none) (s x : Operand) (t e : TypeId) (hop : o.op = Op.call { callee := Callee.builtin Builtin.append, args := #[s, x], argTypes := #[t, t] })
    (ht : P.underlying t = some (.slice e)) (h2 : (P.info? e).map (fun i => (i.zero, i.size, i.bytes)) = some (some (.int .i64 0), 1, 8))
    (base : Nat) (v : Value) (n : Nat) (L : List Int) (hs : a.eval s = v) (hown : w.ownsRow base e 1 v n (L.map i64v)) (hn : L.length = n) (hbase : base ≤ w.heap.size)
    (ad : Addr) (m cap : Nat) (l : List Int) (hx : a.eval x = .slice (some ad) m cap) (hm : l.length = m) (hl : ∀ i, i < l.length → w.cell? (ad.add i) = some (.int .i64 (l[i]?.getD 0))) (hb : n + m ≤ 100000000)
    (hK : ∀ v' w', w'.ownsRow base e 1 v' (n + m) ((L ++ l).map i64v) → w.grownBy w' v.ownBlock → K (a.put o.dst v') w') :
    if Region.wanted o (yielded ops a.tmps) = true then Oper.wp P o a w K Q else E := by
  have hw : Region.wanted o (yielded ops a.tmps) = true := by simp [Region.wanted, hg]
  rw [if_pos hw]
  obtain ⟨i, hi, hz0, hz1, hz2⟩ := info_parts h2
  subst hm
  obtain ⟨v', w', hrun, r1, r2, _⟩ := run_append_own (P := P) w base t o.type e i (.int .i64 0) 1 8 ht hi hz0 hz1 hz2 rfl (by decide) v n (L.map i64v) hown ad l.length cap (l.map i64v) (by simp) (fun j u hj => by
    rw [List.getElem?_map] at hj
    obtain ⟨b, hb1, hb2⟩ := Option.map_eq_some_iff.1 hj
    have hjl : j < l.length := (List.getElem?_eq_some_iff.1 hb1).1
    rw [hl j hjl, hb1, ← hb2]; rfl) (fun u hu => by
    obtain ⟨b, _, hb2⟩ := List.mem_map.1 hu
    rw [← hb2]; rfl) (by unfold maxLen; omega) (by omega) hbase
  unfold Oper.wp
  simp [execOp, hop, resolve, invoke, builtin, hs, hx, hrun, Result.andThen]
  refine hK v' w' ?_ r2
  rw [List.map_append]; exact r1
theorem one_cell {w : World} {g : Nat} {r : Int} (h : w.cell? ⟨g, 0, none⟩ = some (.int .i64 r)) : ∀ i, i < [r].length → w.cell? ((⟨g, 0, none⟩ : Addr).add i) = some (.int .i64 ([r][i]?.getD 0)) := by
  intro i hi
  have : i = 0 := by simp at hi; omega
  subst this
  rw [Addr.add_mid]; exact h
set_option maxRecDepth 100000 in
set_option maxHeartbeats 4000000 in
theorem rassess_any (l : List Sg) (fs : List Fr) (nl nf : Nat) (v vf : Value) (w : World) (hnl : l.length = nl) (hnl2 : nl ≤ 100) (hnf : fs.length = nf) (hnf2 : nf ≤ 100) (hl : IsS 14 Sg.cs w v l) (hf : IsS 9 Fr.cs w vf fs)
    (hok : ∀ s ∈ l, 0 ≤ s.corr ∧ s.corr ≤ 52) :
    Calls Try.prog 14 #[v, vf] w fun e w' => ∃ v', e = .returned v' ∧ IsS 5 He.cs w' v' ((reelsL (distL fs)).map (oneL l (distL fs))) ∧ Below w.heap.size w w' := by
  have HL := Lib.hid hl
  have HFs := Lib.hid hf
  have HOK := Lib.hid hok
  have HNF := Lib.hid hnf
  have HNL := Lib.hid hnl
  clear hl hf hok hnl hnf
  go_enter Try.func14, Try.ntmps14
  go_wp2_with fail
  refine (rdistinct_any fs nf vf _ HNF.out hnf2 HFs.out).mono ?_
  rintro e w2 ⟨v2, rfl, hs2, hb2⟩
  obtain ⟨D, hD⟩ : ∃ D, distL fs = D := ⟨_, rfl⟩
  have HDE := Lib.hid hD
  rw [hD] at hs2
  have hDl : D.length ≤ 100 := by rw [← hD]; exact Nat.le_trans (distL_len fs) (by rw [HNF.out]; exact hnf2)
  have HS2 := Lib.hid hs2
  obtain ⟨a2, o2, c2, rfl, hD2, hr2⟩ := hs2
  obtain ⟨nD, hnD⟩ : ∃ n, D.length = n := ⟨_, rfl⟩
  rw [hnD] at hDl HS2 ⊢
  have HND := Lib.hid hnD
  have HB2 := Lib.hid hb2
  have HD2 : Hid (RowsAt 9 Fr.cs w2 a2 o2 D) := hr2
  clear hD hr2 hb2 hnD hD2
  go_wp2_with fail
  have HR0 : Hid (RIs (w2.alloc (.cells #[] 3)) (.slice (some ⟨w2.heap.size, 0, none⟩) 0 0) (reelsL (D.take 0)) 0 ∧ Below w2.heap.size w2 (w2.alloc (.cells #[] 3))) :=
    ⟨⟨rfl, w2.heap.size, 0, rfl, Nat.le_refl _, Nat.zero_le _, cellsI_alloc w2 [] _⟩, (Below.refl _ _).alloc (Nat.le_refl _) _⟩
  go_loopw [6, 7, 8, 9, 10] (fun v6 i v8 v9 v10 wr => ∃ k m : Nat, k ≤ nD ∧ m ≤ k ∧ i = .int .i64 k ∧ Hid (RIs wr v6 (reelsL (D.take k)) m ∧ Below w2.heap.size w2 wr)) (fun _ i _ _ _ _ => nD - (intOf i).toNat)
  case atStart => exact ⟨0, 0, Nat.zero_le _, Nat.zero_le _, rfl, HR0⟩
  case round =>
    clear HR0
    obtain ⟨k, m, hk, hmk, rfl, HR⟩ := hrel
    obtain ⟨wo, rfl⟩ : ∃ wo : World, wo = wr := ⟨_, rfl⟩
    by_cases hlt : k < nD
    · obtain ⟨s, hs⟩ : ∃ s, D[k]? = some s := ⟨_, List.getElem?_eq_getElem (by rw [HND.out]; exact hlt)⟩
      have HS := Lib.hid (reelsL_snoc D k s hs)
      obtain ⟨bA, rfl, hbA, hrA⟩ := HD2.out k s hs
      have hlow2 : w2.heap.size ≤ wo.heap.size := HR.out.2.size
      have hlow : bA < wo.heap.size := by omega
      have HRA := Lib.hid (rangeAt_kept hrA HR.out.2 hbA)
      obtain ⟨R, hR⟩ : ∃ R, reelsL (D.take k) = R := ⟨_, rfl⟩
      have HR1 := HR.out
      rw [hR] at HS HR1
      obtain ⟨⟨hRm, g6, c6, rfl, hmc, hcM, hc6⟩, hbo⟩ := HR1
      have hg6 : g6 < wo.heap.size := hc6.1
      have HC6 := Lib.hid hc6
      have HBo := Lib.hid hbo
      have HRm := Lib.hid hRm
      unfold rstep at HS
      obtain ⟨r, hr⟩ : ∃ r, s.reel = r := ⟨_, rfl⟩
      have HCr : Hid (wo.cell? ⟨bA, o2 + k * 9 + 1, none⟩ = some (.int .i64 r)) := by unfold Hid; rw [← hr]; exact HRA.out 1 _ rfl
      rw [hr, hRm] at HS
      clear hrA hs HR hR hRm hbo hc6 hr HRA
      go_wp2_with fail
      go_loopw [8, 9, 10] (fun v8 v9 j wr => ∃ i : Nat, i ≤ m ∧ j = .int .i64 i ∧ v8 = .int .i64 (atI R r i) ∧ v9 = .bool (decide (r ∈ R.take i)) ∧ Hid (Below wo.heap.size wo wr)) (fun _ _ j _ => m - (intOf j).toNat)
      case atStart => exact ⟨0, Nat.zero_le _, rfl, rfl, by simp, Below.refl _ _⟩
      case round =>
        obtain ⟨i, hi, rfl, rfl, rfl, HI⟩ := hrel
        by_cases hlti : i < m
        · obtain ⟨x, hx⟩ : ∃ x, R[i]? = some x := ⟨_, List.getElem?_eq_getElem (by rw [HRm.out]; exact hlti)⟩
          have hcx : wr.cell? ⟨g6, i, none⟩ = some (.int .i64 x) := by
            have := (HI.out.cell (p := ⟨g6, i, none⟩) hg6).trans (HC6.out.at i (by rw [HRm.out]; exact hlti))
            rw [hx] at this; exact this
          have hcr : wr.cell? ⟨bA, o2 + k * 9 + 1, none⟩ = some (.int .i64 r) := (HI.out.cell (p := ⟨bA, o2 + k * 9 + 1, none⟩) hlow).trans HCr.out
          have HT := Lib.hid (mem_take_int R i x r hx)
          have HA : Hid (atI R r (i + 1) = if x < r then i + 1 else atI R r i) := by
            unfold Hid
            show (if R[i]?.getD 0 < r then i + 1 else atI R r i) = _
            rw [hx]; rfl
          obtain ⟨b, hbb⟩ : ∃ b, decide (r ∈ R.take i) = b := ⟨_, rfl⟩
          obtain ⟨a, haa⟩ : ∃ a, atI R r i = a := ⟨_, rfl⟩
          rw [hbb] at HT ⊢
          rw [haa] at HA ⊢
          clear hbb haa hx
          cases b with
          | true =>
            have HT' : Hid (decide (r ∈ R.take (i + 1)) = true) := HT.out
            clear HT
            by_cases hxr : x < r
            · skip
              have HA' : Hid (atI R r (i + 1) = i + 1) := by unfold Hid; rw [HA.out]; exact if_pos hxr
              have hdl : decide (x < r) = true := decide_eq_true hxr
              clear HA
              go_wp2_with fail
              go_quiet (fail)
              go_wp2_with fail
              go_quiet (fail)
              go_wp2_with fail
              go_roundw
              case rel => exact ⟨i + 1, by omega, by go_num, by rw [HA'.out]; go_num, by rw [HT'.out], bdN HI.out _⟩
              case measure => simp [intOf] <;> omega
            · skip
              have HA' : Hid (atI R r (i + 1) = a) := by unfold Hid; rw [HA.out]; exact if_neg hxr
              have hdl : decide (x < r) = false := decide_eq_false hxr
              clear HA
              go_wp2_with fail
              go_quiet (fail)
              go_wp2_with fail
              go_quiet (fail)
              go_wp2_with fail
              go_roundw
              case rel => exact ⟨i + 1, by omega, by go_num, by rw [HA'.out], by rw [HT'.out], bdN HI.out _⟩
              case measure => simp [intOf] <;> omega
          | false =>
            have HT0 : Hid (decide (r ∈ R.take (i + 1)) = decide (x = r)) := HT.out
            clear HT
            by_cases hxe : x = r
            · have HT' : Hid (decide (r ∈ R.take (i + 1)) = true) := by unfold Hid; rw [HT0.out]; exact decide_eq_true hxe
              have hxr : ¬ x < r := by omega
              have hde : decide (x = r) = true := decide_eq_true hxe
              clear HT0
              have HA' : Hid (atI R r (i + 1) = a) := by unfold Hid; rw [HA.out]; exact if_neg hxr
              have hdl : decide (x < r) = false := decide_eq_false hxr
              clear HA
              go_wp2_with fail
              go_quiet (fail)
              go_wp2_with fail
              go_quiet (fail)
              go_wp2_with fail
              go_roundw
              case rel => exact ⟨i + 1, by omega, by go_num, by rw [HA'.out], by rw [HT'.out], bdN HI.out _⟩
              case measure => simp [intOf] <;> omega
            · have HT' : Hid (decide (r ∈ R.take (i + 1)) = false) := by unfold Hid; rw [HT0.out]; exact decide_eq_false hxe
              have hde : decide (x = r) = false := decide_eq_false hxe
              have hde2 : (x == r) = false := by simp [hxe]
              clear HT0
              by_cases hxr : x < r
              · skip
                have HA' : Hid (atI R r (i + 1) = i + 1) := by unfold Hid; rw [HA.out]; exact if_pos hxr
                have hdl : decide (x < r) = true := decide_eq_true hxr
                clear HA
                go_wp2_with fail
                go_quiet (fail)
                go_wp2_with fail
                go_quiet (fail)
                go_wp2_with fail
                go_roundw
                case rel => exact ⟨i + 1, by omega, by go_num, by rw [HA'.out]; go_num, by rw [HT'.out], bdN HI.out _⟩
                case measure => simp [intOf] <;> omega
              · skip
                have HA' : Hid (atI R r (i + 1) = a) := by unfold Hid; rw [HA.out]; exact if_neg hxr
                have hdl : decide (x < r) = false := decide_eq_false hxr
                clear HA
                go_wp2_with fail
                go_quiet (fail)
                go_wp2_with fail
                go_quiet (fail)
                go_wp2_with fail
                go_roundw
                case rel => exact ⟨i + 1, by omega, by go_num, by rw [HA'.out], by rw [HT'.out], bdN HI.out _⟩
                case measure => simp [intOf] <;> omega
        · obtain rfl : i = m := by omega
          obtain ⟨b, hbb⟩ : ∃ b, decide (r ∈ R.take i) = b := ⟨_, rfl⟩
          have hTR : R.take i = R := List.take_of_length_le (by rw [HRm.out]; exact Nat.le_refl _)
          obtain ⟨q, hq⟩ : ∃ q, atI R r i = q := ⟨_, rfl⟩
          have hqi : q ≤ i := hq ▸ atI_le R r i
          have HC6r := Lib.hid (HC6.out.kept HI.out)
          have hg6r : g6 < wr.heap.size := HC6r.out.1
          have HCrr : Hid (wr.cell? ⟨bA, o2 + k * 9 + 1, none⟩ = some (.int .i64 r)) := (HI.out.cell (p := ⟨bA, o2 + k * 9 + 1, none⟩) hlow).trans HCr.out
          have HBr := Lib.hid (bt HBo.out HI.out)
          have hlowr : bA < wr.heap.size := Nat.lt_of_lt_of_le hlow HI.out.size
          rw [hq] at HS ⊢
          rw [hbb]
          rw [hTR] at hbb
          clear hq hTR HI
          cases b with
          | true =>
            have HS' : Hid (reelsL (D.take (k + 1)) = R) := by unfold Hid; rw [HS.out]; exact if_pos (of_decide_eq_true hbb)
            clear hbb HS
            go_wp2_with fail
            go_roundw
            case rel => exact ⟨k + 1, i, by omega, by omega, by go_num, by rw [HS'.out]; exact ⟨HRm.out, g6, c6, rfl, hmc, hcM, HC6r.out⟩, HBr.out⟩
            case measure => simp [intOf] <;> omega
          | false =>
            have HS' : Hid (reelsL (D.take (k + 1)) = R.take q ++ r :: R.drop q) := by unfold Hid; rw [HS.out]; exact if_neg (of_decide_eq_false hbb)
            clear hbb HS
            have hqc6 : q ≤ c6 := by omega
            have HTq : Hid ((R.take q).length = q) := by unfold Hid; rw [List.length_take, HRm.out]; omega
            have HDq : Hid ((R.drop q).length = i - q) := by unfold Hid; rw [List.length_drop, HRm.out]
            have HL1 : Hid (∀ W, Below wr.heap.size wr W → ∀ j, j < (R.take q).length → W.cell? ((⟨g6, 0, none⟩ : Addr).add j) = some (.int .i64 ((R.take q)[j]?.getD 0))) := by
              intro W hW j hj
              rw [Addr.add_mid, Nat.zero_add]
              exact (HC6r.out.kept hW).take q |>.at j hj
            have HL2 : Hid (∀ W, Below wr.heap.size wr W → ∀ j, j < (R.drop q).length → W.cell? ((⟨g6, q, none⟩ : Addr).add j) = some (.int .i64 ((R.drop q)[j]?.getD 0))) := by
              intro W hW j hj
              rw [Addr.add_mid, List.getElem?_drop]
              rw [HDq.out] at hj
              exact (HC6r.out.kept hW).at (q + j) (by rw [HRm.out]; omega)
            have HLe : Hid (R.length ≤ q → ∀ (W : World) (ad : Addr) (j : Nat), j < (R.drop q).length → W.cell? (ad.add j) = some (.int .i64 ((R.drop q)[j]?.getD 0))) := by
              intro h W ad j hj
              rw [List.length_drop] at hj; omega
            have hSof : ∀ W : World, Below wr.heap.size wr W → W.cell? ⟨bA, o2 + k * 9 + 1, none⟩ = some (.int .i64 r) ∧ Below wr.heap.size wr W := fun W hW => ⟨(hW.cell (p := ⟨bA, o2 + k * 9 + 1, none⟩) hlowr).trans HCrr.out, hW⟩
            have HSof := Lib.hid hSof
            have HB0 : Hid (Below wr.heap.size wr wr.drew) := (Below.refl _ _).drew
            have HBA : Hid (Below wr.heap.size wr (wr.alloc (.cells #[] 3)).drew) := ((Below.refl _ _).alloc (Nat.le_refl _) _).drew
            have HBD : Hid (Below wr.heap.size wr (wr.alloc (.cells #[.int .i64 r] 3)).drew) := ((Below.refl _ _).alloc (Nat.le_refl _) _).drew
            have HBB : Hid (Below wr.heap.size wr ((wr.alloc (.cells #[] 3)).alloc (.cells #[.int .i64 r] 3)).drew) := (((Below.refl _ _).alloc (Nat.le_refl _) _).alloc (by simp) _).drew
            have HBC : Hid (Below wr.heap.size wr ((wr.alloc (.cells #[.int .i64 r] 3)).alloc (.cells #[] 3)).drew) := (((Below.refl _ _).alloc (Nat.le_refl _) _).alloc (by simp) _).drew
            have HOA : Hid ((wr.alloc (.cells #[] 3)).drew.ownsRow wr.heap.size 3 1 (.slice (some ⟨wr.heap.size, 0, none⟩) 0 0) 0 (([] : List Int).map i64v)) := owns_empty wr 3 1
            have HOB : Hid (((wr.alloc (.cells #[] 3)).alloc (.cells #[.int .i64 r] 3)).drew.ownsRow wr.heap.size 3 1 (.slice (some ⟨wr.heap.size, 0, none⟩) 0 0) 0 (([] : List Int).map i64v)) := (owns_empty wr 3 1).alloc _
            have hz1 : (wr.alloc (.cells #[.int .i64 r] 3)).heap.size = wr.heap.size + 1 := by simp
            have hz2 : (wr.alloc (.cells #[] 3)).heap.size = wr.heap.size + 1 := by simp
            have HOC : Hid (((wr.alloc (.cells #[.int .i64 r] 3)).alloc (.cells #[] 3)).drew.ownsRow wr.heap.size 3 1 (.slice (some ⟨wr.heap.size + 1, 0, none⟩) 0 0) 0 (([] : List Int).map i64v)) := by
              have := owns_empty (wr.alloc (.cells #[.int .i64 r] 3)) 3 1
              rw [hz1] at this
              exact ⟨this.1, this.2.imp id fun ⟨g, cap, cur, h1, h2, h3⟩ => ⟨g, cap, cur, h1, Nat.le_trans (Nat.le_succ _) h2, h3⟩⟩
            have HcB : Hid (((wr.alloc (.cells #[] 3)).alloc (.cells #[.int .i64 r] 3)).drew.cell? ⟨wr.heap.size + 1, 0, none⟩ = some (.int .i64 r)) := by
              have := box_cell (wr.alloc (.cells #[] 3)) [.int .i64 r] 3 0 _ rfl
              rw [hz2] at this
              exact this
            have HcC : Hid (((wr.alloc (.cells #[.int .i64 r] 3)).alloc (.cells #[] 3)).drew.cell? ⟨wr.heap.size, 0, none⟩ = some (.int .i64 r)) :=
              (World.cell?_alloc_lt _ _ _ (by simp)).trans (box_cell wr [.int .i64 r] 3 0 _ rfl)
            have HNB : Hid (∀ w4 : World, World.grownBy ((wr.alloc (.cells #[] 3)).alloc (.cells #[.int .i64 r] 3)).drew w4 (Value.slice (some ⟨wr.heap.size, 0, none⟩) 0 0).ownBlock → w4.cell? ⟨wr.heap.size + 1, 0, none⟩ = some (.int .i64 r)) := by
              intro w4 hg4
              refine (World.cell?_of_block (hg4.block (wr.heap.size + 1) ?_ ?_)).trans HcB.out
              · show wr.heap.size + 1 < ((wr.alloc (.cells #[] 3)).alloc (.cells #[.int .i64 r] 3)).heap.size
                simp
              · intro e
                have e2 : wr.heap.size + 1 = wr.heap.size := Option.some.inj e
                omega
            have HNC : Hid (∀ w4 : World, World.grownBy ((wr.alloc (.cells #[.int .i64 r] 3)).alloc (.cells #[] 3)).drew w4 (Value.slice (some ⟨wr.heap.size + 1, 0, none⟩) 0 0).ownBlock → w4.cell? ⟨wr.heap.size, 0, none⟩ = some (.int .i64 r)) := by
              intro w4 hg4
              refine (World.cell?_of_block (hg4.block wr.heap.size ?_ ?_)).trans HcC.out
              · show wr.heap.size < ((wr.alloc (.cells #[.int .i64 r] 3)).alloc (.cells #[] 3)).heap.size
                simp; omega
              · intro e
                have e2 : wr.heap.size = wr.heap.size + 1 := Option.some.inj e
                omega
            have HTq2 : Hid ((([] : List Int) ++ R.take q).length = 0 + q) := by unfold Hid; rw [List.nil_append, HTq.out, Nat.zero_add]
            have HTq3 : Hid (((([] : List Int) ++ R.take q) ++ [r]).length = 0 + q + 1) := by unfold Hid; rw [List.length_append, HTq2.out]; rfl
            have HF : Hid (∀ (mm : Nat) (hmm : mm = i - q) (v6 : Value) (w6 : World), w6.ownsRow wr.heap.size 3 1 v6 (0 + q + 1 + mm) (((([] : List Int) ++ R.take q) ++ [r]) ++ R.drop q |>.map i64v) → RIs w6 v6 (R.take q ++ r :: R.drop q) (i + 1)) := by
              intro mm hmm v6 w6 ho
              subst hmm
              have e1 : (([] : List Int) ++ R.take q) ++ [r] ++ R.drop q = R.take q ++ r :: R.drop q := by simp
              rw [e1, show 0 + q + 1 + (i - q) = i + 1 by omega] at ho
              refine RIs.of_owns ho ?_ (by omega)
              have := HTq.out; have h2 := HDq.out
              rw [List.length_append, List.length_cons, this, h2]; omega
            clear hSof
            go_wp2_with fail
            by_cases hqc : q = c6
            · have hlen : Hid (R.length ≤ q) := by unfold Hid; rw [HRm.out]; omega
              have hlen0 : Hid ((R.drop q).length = 0) := by unfold Hid; rw [HDq.out]; omega
              subst hqc
              go_region_held_law (fun w' : World => w'.cell? ⟨bA, o2 + k * 9 + 1, none⟩ = some (.int .i64 r) ∧ Below wr.heap.size wr w')
                (first | exact HSof.out _ HB0.out | exact HSof.out _ HBA.out | exact HSof.out _ HBD.out | exact HSof.out _ HBB.out | exact HSof.out _ HBC.out | exact HSof.out _ (by assumption) | exact HSof.out _ (hb4.alloc hb4.size _))
                (first
                 | (refine step_append_I rfl _ _ 32 3 rfl Try.underlying32 Try.infoI64 wr.heap.size _ 0 [] rfl HOA.out rfl HBA.out.size ⟨g6, 0, none⟩ q q (R.take q) rfl HTq.out (HL1.out _ HBA.out) (by omega) ?_
                    intro v4 w4 ho4 hg4
                    have hb4 := belowA_own HBA.out HOA.out hg4 (Nat.le_refl _) HBA.out.size)
                 | (refine step_append_I rfl _ _ 32 3 rfl Try.underlying32 Try.infoI64 wr.heap.size _ 0 [] rfl HOB.out rfl HBB.out.size ⟨g6, 0, none⟩ q q (R.take q) rfl HTq.out (HL1.out _ HBB.out) (by omega) ?_
                    intro v4 w4 ho4 hg4
                    have hb4 := belowA_own HBB.out HOB.out hg4 (Nat.le_refl _) HBB.out.size
                    have hc4 := HNB.out _ hg4)
                 | (refine step_append_I rfl _ _ 32 3 rfl Try.underlying32 Try.infoI64 wr.heap.size _ 0 [] rfl HOC.out rfl HBC.out.size ⟨g6, 0, none⟩ q q (R.take q) rfl HTq.out (HL1.out _ HBC.out) (by omega) ?_
                    intro v4 w4 ho4 hg4
                    have hb4 := belowA_own HBC.out HOC.out hg4 (Nat.le_refl _) HBC.out.size
                    have hc4 := HNC.out _ hg4)
                 | (refine step_append_I rfl _ _ 32 3 rfl Try.underlying32 Try.infoI64 wr.heap.size _ (0 + q) ([] ++ R.take q) rfl (ho4.alloc _) HTq2.out (hb4.alloc hb4.size _).size ⟨w4.heap.size, 0, none⟩ 1 1 [r] rfl rfl (one_cell (box_cell w4 [.int .i64 r] 3 0 _ rfl)) (by omega) ?_
                    intro v5 w5 ho5 hg5
                    have hb5 := belowA_own (hb4.alloc hb4.size _) (ho4.alloc _) hg5 (Nat.le_refl _) (hb4.alloc hb4.size _).size)
                 | (refine step_append_I rfl _ _ 32 3 rfl Try.underlying32 Try.infoI64 wr.heap.size _ (0 + q) ([] ++ R.take q) rfl ho4 HTq2.out hb4.size _ 1 1 [r] rfl rfl (one_cell hc4) (by omega) ?_
                    intro v5 w5 ho5 hg5
                    have hb5 := belowA_own hb4 ho4 hg5 (Nat.le_refl _) hb4.size)
                 | (refine step_append_I rfl _ _ 32 3 rfl Try.underlying32 Try.infoI64 wr.heap.size _ (0 + q + 1) (([] ++ R.take q) ++ [r]) rfl ho5 HTq3.out hb5.size _ 0 _ (R.drop q) rfl hlen0.out (HLe.out hlen.out _ _) (by omega) ?_
                    intro v6 w6 ho6 hg6
                    have hb6 := belowA_own hb5 ho5 hg6 (Nat.le_refl _) hb5.size))
              all_goals
                go_wp2_with fail
                go_roundw
                case rel => exact ⟨k + 1, i + 1, by omega, by omega, by go_num, by rw [HS'.out]; exact HF.out _ (by omega) _ _ ho6, bt HBr.out hb6⟩
                case measure => simp [intOf] <;> omega
            · have hqc2 : ¬ c6 = q := fun e => hqc e.symm
              go_region_held_law (fun w' : World => w'.cell? ⟨bA, o2 + k * 9 + 1, none⟩ = some (.int .i64 r) ∧ Below wr.heap.size wr w')
                (first | exact HSof.out _ HB0.out | exact HSof.out _ HBA.out | exact HSof.out _ HBD.out | exact HSof.out _ HBB.out | exact HSof.out _ HBC.out | exact HSof.out _ (by assumption) | exact HSof.out _ (hb4.alloc hb4.size _))
                (first
                 | (refine step_append_I rfl _ _ 32 3 rfl Try.underlying32 Try.infoI64 wr.heap.size _ 0 [] rfl HOA.out rfl HBA.out.size ⟨g6, 0, none⟩ q c6 (R.take q) rfl HTq.out (HL1.out _ HBA.out) (by omega) ?_
                    intro v4 w4 ho4 hg4
                    have hb4 := belowA_own HBA.out HOA.out hg4 (Nat.le_refl _) HBA.out.size)
                 | (refine step_append_I rfl _ _ 32 3 rfl Try.underlying32 Try.infoI64 wr.heap.size _ 0 [] rfl HOB.out rfl HBB.out.size ⟨g6, 0, none⟩ q c6 (R.take q) rfl HTq.out (HL1.out _ HBB.out) (by omega) ?_
                    intro v4 w4 ho4 hg4
                    have hb4 := belowA_own HBB.out HOB.out hg4 (Nat.le_refl _) HBB.out.size
                    have hc4 := HNB.out _ hg4)
                 | (refine step_append_I rfl _ _ 32 3 rfl Try.underlying32 Try.infoI64 wr.heap.size _ 0 [] rfl HOC.out rfl HBC.out.size ⟨g6, 0, none⟩ q c6 (R.take q) rfl HTq.out (HL1.out _ HBC.out) (by omega) ?_
                    intro v4 w4 ho4 hg4
                    have hb4 := belowA_own HBC.out HOC.out hg4 (Nat.le_refl _) HBC.out.size
                    have hc4 := HNC.out _ hg4)
                 | (refine step_append_I rfl _ _ 32 3 rfl Try.underlying32 Try.infoI64 wr.heap.size _ (0 + q) ([] ++ R.take q) rfl (ho4.alloc _) HTq2.out (hb4.alloc hb4.size _).size ⟨w4.heap.size, 0, none⟩ 1 1 [r] rfl rfl (one_cell (box_cell w4 [.int .i64 r] 3 0 _ rfl)) (by omega) ?_
                    intro v5 w5 ho5 hg5
                    have hb5 := belowA_own (hb4.alloc hb4.size _) (ho4.alloc _) hg5 (Nat.le_refl _) (hb4.alloc hb4.size _).size)
                 | (refine step_append_I rfl _ _ 32 3 rfl Try.underlying32 Try.infoI64 wr.heap.size _ (0 + q) ([] ++ R.take q) rfl ho4 HTq2.out hb4.size _ 1 1 [r] rfl rfl (one_cell hc4) (by omega) ?_
                    intro v5 w5 ho5 hg5
                    have hb5 := belowA_own hb4 ho4 hg5 (Nat.le_refl _) hb4.size)
                 | (refine step_append_I rfl _ _ 32 3 rfl Try.underlying32 Try.infoI64 wr.heap.size _ (0 + q + 1) (([] ++ R.take q) ++ [r]) rfl ho5 HTq3.out hb5.size ⟨g6, q, none⟩ (i - q) _ (R.drop q) rfl HDq.out (HL2.out _ hb5) (by omega) ?_
                    intro v6 w6 ho6 hg6
                    have hb6 := belowA_own hb5 ho5 hg6 (Nat.le_refl _) hb5.size))
              all_goals
                go_wp2_with fail
                go_roundw
                case rel => exact ⟨k + 1, i + 1, by omega, by omega, by go_num, by rw [HS'.out]; exact HF.out _ (by omega) _ _ ho6, bt HBr.out hb6⟩
                case measure => simp [intOf] <;> omega
    · have hnk : nD ≤ k := by omega
      obtain ⟨R, hR⟩ : ∃ R, reelsL D = R := ⟨_, rfl⟩
      have HR1 := HR.out
      rw [List.take_of_length_le (by rw [HND.out]; exact hnk), hR] at HR1
      obtain ⟨⟨hRm, g6, c6, rfl, hmc, hcM, hc6⟩, hbo⟩ := HR1
      have hg6 : g6 < wo.heap.size := hc6.1
      have HC6 := Lib.hid hc6
      have HBo := Lib.hid (HB2.out.trans (hbo.mono HB2.out.size))
      have HL3 := Lib.hid (HL.out.kept HBo.out)
      have HS3 := Lib.hid (HS2.out.kept hbo)
      have HRm := Lib.hid hRm
      have HRE := Lib.hid hR
      have HM0 : Hid (∀ j x, R[j]? = some x → (R.take (j + 1)).map (oneL l D) = (R.take j).map (oneL l D) ++ [oneL l D x]) := by
        intro j x hx
        rw [List.take_add_one, hx, List.map_append]; rfl
      have hHM : m ≤ 100 := by omega
      have HW0 : Hid ((wo.alloc (.cells #[] 31)).ownsRow wo.heap.size 31 5 (.slice (some ⟨wo.heap.size, 0, none⟩) 0 0) 0 (((R.take 0).map (oneL l D)).flatMap He.cs) ∧ Below wo.heap.size wo (wo.alloc (.cells #[] 31))) := ⟨owns_empty _ _ _, (Below.refl _ _).alloc (Nat.le_refl _) _⟩
      have hszo : w.heap.size ≤ wo.heap.size := HBo.out.size
      clear HR hR hRm hbo hc6
      go_wp2_with fail
      go_loopw [11, 12] (fun v11 i wr => ∃ j : Nat, j ≤ m ∧ i = .int .i64 j ∧ Hid (wr.ownsRow wo.heap.size 31 5 v11 j (((R.take j).map (oneL l D)).flatMap He.cs) ∧ Below wo.heap.size wo wr)) (fun _ i _ => m - (intOf i).toNat)
      case atStart => exact ⟨0, Nat.zero_le _, rfl, HW0⟩
      case round =>
        clear HW0
        obtain ⟨j, hj, rfl, HW⟩ := hrel
        by_cases hltj : j < m
        · obtain ⟨x, hx⟩ : ∃ x, R[j]? = some x := ⟨_, List.getElem?_eq_getElem (by rw [HRm.out]; exact hltj)⟩
          have hcx : wr.cell? ⟨g6, j, none⟩ = some (.int .i64 x) := by
            have := (HW.out.2.cell (p := ⟨g6, j, none⟩) hg6).trans (HC6.out.at j (by rw [HRm.out]; exact hltj))
            rw [hx] at this; exact this
          have HT := Lib.hid (HM0.out j x hx)
          obtain ⟨h, hh⟩ : ∃ h, oneL l D x = h := ⟨_, rfl⟩
          have HH := Lib.hid hh
          rw [hh] at HT
          have hTl : ((R.take j).map (oneL l D)).length = j := by rw [List.length_map, List.length_take, HRm.out]; omega
          have HTl := Lib.hid hTl
          have HL4 := Lib.hid (HL3.out.kept HW.out.2)
          have HS4 := Lib.hid (HS3.out.kept HW.out.2)
          have hszw : wo.heap.size ≤ wr.heap.size := HW.out.2.size
          clear hx hh hTl
          go_wp2_with fail
          refine (rone_any l D x nl nD v _ wr HNL.out hnl2 HND.out hDl HL4.out HS4.out HOK.out).mono ?_
          rintro e w4 ⟨rfl, hb4⟩
          rw [HH.out]
          have HO4 := Lib.hid (ownsS_below HW.out.1 hb4)
          have HB4 := Lib.hid (bt HW.out.2 hb4)
          have hszx : wo.heap.size ≤ w4.heap.size := HB4.out.size
          clear hb4
          unfold He.v
          go_wp2_with first
            | refine wpList_slice1 rfl 27 31 _ rfl Try.underlying27 _ 5 40 Try.infoH (by omega) (by omega) He.cs He.len h rfl ?_
            | (at_builtin; refine wpList_append_S rfl _ _ 27 31 rfl Try.underlying27 _ 5 40 Try.infoH rfl (by omega) (by omega) He.cs He.len He.ones wo.heap.size _ j ((R.take j).map (oneL l D)) rfl (HO4.out.alloc _) HTl.out (by simp; omega) w4.heap.size 1 h rfl (box_range w4 h.cs 31) (by omega) ?_; intro v5 w5 ho5 hg5)
          go_roundw
          case rel =>
            refine ⟨j + 1, by omega, by go_num, ?_, belowS_grown (HB4.out.alloc hszx _) (HO4.out.alloc _) hg5 (by simp; omega) (Nat.le_refl _)⟩
            rw [HT.out]; exact ho5
          case measure => simp [intOf] <;> omega
        · have hnk2 : m ≤ j := by omega
          have HF : Hid (IsS 5 He.cs wr u11 ((reelsL (distL fs)).map (oneL l (distL fs))) ∧ Below w.heap.size w wr) := by
            unfold Hid
            have h1 := HW.out
            rw [List.take_of_length_le (by rw [HRm.out]; exact hnk2)] at h1
            rw [HDE.out, HRE.out]
            exact ⟨isS_of_owns He.len h1.1 (by rw [List.length_map, HRm.out]; omega), HBo.out.trans (h1.2.mono hszo)⟩
          go_wp2
          go_ret
          exact ⟨_, rfl, HF.out⟩
end Go.Proofs.Ytafididfgljfcaa
