/-
  The walk of the law RsdecodeErasure.
-/
import Derived.Test.YtamkahjdedomlaaRdCodewordW
import Derived.Test.YtamkahjdedomlaaBools
import Derived.Test.YtamkahjdedomlaaRdErasPlain
import Derived.Test.YtamkahjdedomlaaStepI
namespace Go.Proofs.Ytamkahjdedomlaa
open Go.RowKit
set_option linter.unusedVariables false

/-- The three ways in which the two new blocks may come to lie. -/
abbrev Wi (w : World) : World := (w.alloc (.cells #[] 3)).drew
abbrev Wii (w : World) (x : Int) : World := ((w.alloc (.cells #[] 3)).alloc (.cells #[.int .i64 x] 3)).drew
abbrev Wiii (w : World) (x : Int) : World := ((w.alloc (.cells #[.int .i64 x] 3)).alloc (.cells #[] 3)).drew
theorem own_i (w : World) : (Wi w).ownsRow w.heap.size 3 1 (.slice (some ⟨w.heap.size, 0, none⟩) 0 0) 0 (([] : List Int).map i64v) := World.ownsRow_lit w #[] 0 (Nat.le_refl _) (by unfold maxLen; omega) rfl
theorem own_ii (w : World) (x : Int) : (Wii w x).ownsRow w.heap.size 3 1 (.slice (some ⟨w.heap.size, 0, none⟩) 0 0) 0 (([] : List Int).map i64v) := World.ownsRow.alloc (World.ownsRow_lit w #[] 0 (Nat.le_refl _) (by unfold maxLen; omega) rfl) _
theorem own_iii (w : World) (x : Int) : (Wiii w x).ownsRow w.heap.size 3 1 (.slice (some ⟨w.heap.size + 1, 0, none⟩) 0 0) 0 (([] : List Int).map i64v) := by
  have h := World.ownsRow_lit (base := w.heap.size) (e := 3) (size := 1) (w.alloc (.cells #[.int .i64 x] 3)) #[] 0 (by simp) (by unfold maxLen; omega) rfl
  have e : (w.alloc (.cells #[.int .i64 x] 3)).heap.size = w.heap.size + 1 := by simp
  rw [e] at h
  exact h
theorem bel_i (w : World) : Below w.heap.size w (Wi w) := ((Below.refl _ w).alloc (Nat.le_refl _) _).drew
theorem bel_ii (w : World) (x : Int) : Below w.heap.size w (Wii w x) := (((Below.refl _ w).alloc (Nat.le_refl _) _).alloc (by simp) _).drew
theorem bel_iii (w : World) (x : Int) : Below w.heap.size w (Wiii w x) := (((Below.refl _ w).alloc (Nat.le_refl _) _).alloc (by simp) _).drew
theorem rd_now (w : World) (x : Int) : RdI (w.alloc (.cells #[.int .i64 x] 3)) (.slice (some ⟨w.heap.size, 0, none⟩) 1 1) [x] :=
  Or.inr ⟨_, 0, 1, rfl, by simp, fun i hi => by rw [Nat.zero_add]; exact (cellsI_one w _ _).at i hi⟩
theorem rd_ii (w w6 : World) (x : Int) (hg : (Wii w x).grownBy w6 (Value.slice (some ⟨w.heap.size, 0, none⟩) 0 0).ownBlock) : RdI w6 (.slice (some ⟨w.heap.size + 1, 0, none⟩) 1 1) [x] := by
  have h := cellsI_one (w.alloc (.cells #[] 3)) x 3
  have e : (w.alloc (.cells #[] 3)).heap.size = w.heap.size + 1 := by simp
  rw [e] at h
  refine Or.inr ⟨_, 0, 1, rfl, by simp, fun i hi => ?_⟩
  rw [Nat.zero_add]
  refine hg.cell (h.drew.at i hi) fun c => ?_
  have : w.heap.size + 1 = w.heap.size := Option.some.inj c
  omega
theorem rd_iii (w w6 : World) (x : Int) (hg : (Wiii w x).grownBy w6 (Value.slice (some ⟨w.heap.size + 1, 0, none⟩) 0 0).ownBlock) : RdI w6 (.slice (some ⟨w.heap.size, 0, none⟩) 1 1) [x] := by
  have h := (cellsI_one w x 3).alloc (.cells #[] 3)
  refine Or.inr ⟨_, 0, 1, rfl, by simp, fun i hi => ?_⟩
  rw [Nat.zero_add]
  refine hg.cell (h.drew.at i hi) fun c => ?_
  have : w.heap.size = w.heap.size + 1 := Option.some.inj c
  omega
theorem decode_x (s X : ByteArray) (W o : List UInt8) (p : Int) (ev : Value) (zs : List Int) (n : Nat) (w : World) (hW : s.data.toList = W) (hE : RdI w ev zs) (hzs : zs.length ≤ 100000) (hD : Hid (decB W p zs = (o, n, 0))) (hX : (⟨o.toArray⟩ : ByteArray) = X) :
    Calls Try.prog 16 #[.string s, .int .i64 p, ev] w fun e w' => e = .returned (.tuple #[.string X, .int .i64 n, .int .i64 0]) ∧ Below w.heap.size w w' := by
  rw [← hX]; exact decode_r s W p ev zs (o, n, 0) w hW hE hzs hD

set_option maxRecDepth 100000 in
set_option maxHeartbeats 8000000 in
theorem rsdecodeErasure.walk (w : World) (s : ByteArray) (w0 : s.size ≤ maxLen) (p : Int) (w1 : (Lit.int .i64 p).wf = true) (v2 : Value) (zs : List Int) (hz : IsInts .i64 w v2 zs) (hnil : NilOk v2) (j0 : Int) (w3 : (Lit.int .u8 j0).wf = true) :
    Calls Try.prog 8 #[.string s, .int .i64 p, v2, .int .u8 j0] w fun e w' => e = .returned (.bool true) ∧ Below w.heap.size w w' := by
  obtain ⟨J, hJ, rfl⟩ := u8_nat w3
  obtain ⟨a2, off, cap, hv2, hf2⟩ := hz.rd.form
  obtain ⟨nz, hnz⟩ : ∃ nz, zs.length = nz := ⟨_, rfl⟩
  have hnzb : nz ≤ maxLen := by
    rcases hz with ⟨_, _, _, rfl⟩ | ⟨_, _, _, _, h2, h3, _⟩
    · simp at hnz; omega
    · omega
  rw [hnz] at hv2 hf2
  have HRd := Lib.hid hz.rd
  have HNZ := Lib.hid hnz
  have HF2 := Lib.hid hf2
  have HNil := Lib.hid hnil
  subst hv2
  unfold maxLen at w0 hnzb
  obtain ⟨W, hW⟩ : ∃ W, s.data.toList = W := ⟨_, rfl⟩
  have HW := Lib.hid hW
  obtain ⟨b, hb⟩ : ∃ b, smallB s.size p nz = b := ⟨_, rfl⟩
  have HBb := Lib.hid hb
  clear hz hf2 hnz hW hb w1 w3 hnil
  cases b with
  | false =>
    go_enter Try.func8, Try.ntmps8
    go_wp2_with fail
    refine (alive_any _).mono ?_
    rintro e w1 ⟨rfl, hB1⟩
    have HB1 := Lib.hid hB1
    clear hB1
    go_wp2_with fail
    refine (small_any s p a2 nz cap _ w0 hnzb false HBb).mono ?_
    rintro e w2 ⟨rfl, rfl⟩
    go_wp2
    go_ret
    exact ⟨rfl, HB1.out⟩
  | true =>
    have hsm := of_decide_eq_true HBb.out
    obtain ⟨hs60, hp16, hn40⟩ := hsm
    obtain ⟨D, hD⟩ : ∃ D, decB W p zs = D := ⟨_, rfl⟩
    have HD := Lib.hid hD
    have hcases := decB_sound W p zs
    rw [hD] at hcases
    clear hD
    go_enter Try.func8, Try.ntmps8
    go_wp2_with fail
    refine (alive_any _).mono ?_
    rintro e w1 ⟨rfl, hB1⟩
    have HB1 := Lib.hid hB1
    clear hB1
    go_wp2_with fail
    refine (small_any s p a2 nz cap _ w0 hnzb true HBb).mono ?_
    rintro e w2 ⟨rfl, rfl⟩
    have HC := Lib.hid hcases
    clear hcases
    go_wp2_with fail
    refine (decode_r s W p _ zs D _ HW.out (HRd.out.kept HB1.out) (by rw [HNZ.out]; omega) HD).mono ?_
    rintro e w3 ⟨rfl, hB3⟩
    have HB3 := Lib.hid (bt HB1.out hB3)
    clear hB3
    rcases HC.out with rfl | rfl | ⟨q, o, rfl, rfl, G⟩
    · clear HC
      go_wp2
      go_ret
      exact ⟨rfl, HB3.out⟩
    · clear HC
      go_wp2
      go_ret
      exact ⟨rfl, HB3.out⟩
    · clear HC
      obtain ⟨X, hX, hXd, hXs⟩ := str_of o
      have hWs : W.length = s.size := by rw [← HW.out]; rfl
      have hXs2 : X.size = s.size := by have := G.len; omega
      obtain ⟨dn, hdn⟩ : ∃ dn, (diffs W o).length = dn := ⟨_, rfl⟩
      have hdnl : dn ≤ 60 := by
        rw [← hdn]; unfold diffs
        refine Nat.le_trans (List.length_filter_le _ _) ?_
        rw [List.length_range]; omega
      have hst : (X.toList == X.toList) = true := beq_self_eq_true _
      have hst2 : (X.toList != X.toList) = false := by rw [bne, hst]; rfl
      have hdec2 : decB W q (backTo zs nz) = (o, dn, 0) := by
        rw [decB_congr W q (backTo zs nz) zs (fun x => by rw [← HNZ.out]; exact backTo_all zs x), ← hdn]
        exact G.back
      rw [hdn, hX]
      have HX := Lib.hid hX
      have HXd := Lib.hid hXd
      have HXs := Lib.hid hXs2
      have HG := Lib.hid G
      have HDN := Lib.hid hdn
      have HDec2 := Lib.hid hdec2
      clear hX hXd hXs hWs hXs2 hdn hdec2 G
      go_wp2
      go_loopw [12, 13] (fun v i wr => ∃ k : Nat, k ≤ nz ∧ i = .int .i64 k ∧ Hid (wr.ownsRow w.heap.size 3 1 v (2 * k) ((backTo zs k).map i64v)) ∧ Hid (Below w.heap.size w wr)) (fun _ i _ => nz - (intOf i).toNat)
      case atStart => exact ⟨0, Nat.zero_le _, rfl, World.ownsRow_nil _ _ _ _, HB3.out⟩
      case round =>
        obtain ⟨k, hk, rfl, HO, HB⟩ := hrel
        by_cases hlt : k < nz
        · obtain ⟨b2, rfl, hb2, hc2⟩ := HF2.out k hlt
          obtain ⟨b3, hb3e, _, hc3⟩ := HF2.out (nz - 1 - k) (by omega)
          obtain rfl : b2 = b3 := by cases hb3e; rfl
          obtain ⟨z, hz⟩ : ∃ z, zs[k]?.getD 0 = z := ⟨_, rfl⟩
          obtain ⟨y, hy⟩ : ∃ y, zs[nz - 1 - k]?.getD 0 = y := ⟨_, rfl⟩
          rw [hz] at hc2
          rw [hy] at hc3
          have hco : wr.cell? ⟨b2, off + k, none⟩ = some (.int .i64 z) := (HB.out.cell (p := ⟨b2, off + k, none⟩) hb2).trans hc2
          have hco3 : wr.cell? ⟨b2, off + (nz - 1 - k), none⟩ = some (.int .i64 y) := (HB.out.cell (p := ⟨b2, off + (nz - 1 - k), none⟩) hb2).trans hc3
          have HS : Hid (backTo zs (k + 1) = backTo zs k ++ [y, z]) := by unfold Hid; rw [← hz, ← hy, ← HNZ.out]; rfl
          have hwz := HB.out.size
          have e1 : IntKind.i64.wrap ((nz : Int) - 1) = (nz : Int) - 1 := IntWalk.i64_in _ (by omega)
          have e2 : IntKind.i64.wrap ((nz : Int) - 1 - k) = (nz : Int) - 1 - k := IntWalk.i64_in _ (by omega)
          have e3 : ((nz : Int) - 1 - k).toNat = nz - 1 - k := by omega
          have e4 : 0 ≤ (nz : Int) - 1 - k := by omega
          have e5 : (nz : Int) - 1 - k < (nz : Int) := by omega
          have e6 : (k : Int) < (nz : Int) := by omega
          have e7 : (k : Int) ≤ (nz : Int) - 1 := by omega
          have hkk : k ≤ 40 := by omega
          clear hz hy hc2 hc3 hb3e
          go_wp2_with fail
          go_region_law ((refine step_append_rd (by rfl) _ _ 23 3 (by rfl) Try.underlying23 Try.infoI64 w.heap.size u12 (2 * k) _ (by rfl) (HO.out.drew.alloc _) (by have := HB.out.size; simp; omega) (.slice (some ⟨wr.heap.size, 0, none⟩) 2 2) [y, z] (by rfl) (Or.inr ⟨wr.heap.size, 0, 2, rfl, by simp, fun i hi => by rw [Nat.zero_add]; exact (cellsI_alloc wr.drew [y, z] 3).at i hi⟩) (fun _ => ⟨_, _, _, rfl⟩) (by simp; omega) ?_; intro v' w1 hown1 hg1))
          all_goals
            have HB1' : Hid (Below w.heap.size w w1) := (HB.out.alloc hwz _).drew.trans (below_grown (HO.out.drew.alloc _) hg1 (by simp; omega) (Nat.le_refl _))
            have HO1 : Hid (w1.ownsRow w.heap.size 3 1 v' (2 * (k + 1)) ((backTo zs (k + 1)).map i64v)) := by
              unfold Hid
              rw [HS.out, show 2 * (k + 1) = 2 * k + 2 by omega, List.map_append]
              rw [List.map_append] at hown1
              exact hown1
            clear hown1 hg1
            go_wp2
            go_roundw
            case rel => exact ⟨k + 1, by omega, by go_num, HO1, HB1'⟩
            case measure => simp [intOf] <;> omega
        · have HK : Hid (k = nz) := by unfold Hid; omega
          have hnk : nz ≤ k := by omega
          have HO2 : Hid (RdI wr u12 (backTo zs nz)) := by
            have := HO.out
            rw [HK.out] at this
            exact (slI_of_owns this (backTo_len zs nz)).rd
          go_wp2_with fail
          refine (decode_x s X W o q u12 (backTo zs nz) dn _ HW.out HO2.out (by rw [backTo_len]; omega) HDec2.out HX.out).mono ?_
          rintro e w4 ⟨rfl, hb4⟩
          have HB4 := Lib.hid (bt HB.out hb4)
          clear hb4
          go_wp2_with fail
          have hl := locate_r s W o s.size HW.out rfl (by rw [HG.out.len, ← HW.out]; rfl) (by omega) w4
          rw [HX.out] at hl
          refine hl.mono ?_
          rintro e w5 ⟨v5, rfl, hs5, hb5⟩
          have HB5 := Lib.hid (bt HB4.out hb5)
          obtain ⟨a5, cap5, hv5, hf5⟩ := hs5.form
          have hnl5 : (natI (diffs W o)).length = dn := by unfold natI; rw [List.length_map]; exact HDN.out
          rw [hnl5] at hv5 hf5
          have HF5 := Lib.hid hf5
          subst hv5
          clear hs5 hb5 hf5 hnl5 hl
          by_cases hd0 : dn = 0
          · have hd0' : ((dn : Int) == 0) = true := by rw [beq_iff_eq]; omega
            clear hd0
            go_wp2
            go_ret
            exact ⟨rfl, HB5.out⟩
          · have hd0' : ((dn : Int) == 0) = false := by rw [beq_eq_false_iff_ne]; omega
            obtain ⟨jj, hjj⟩ : ∃ jj : Nat, (J : Int) % (dn : Int) = jj := ⟨J % dn, by omega⟩
            have hjd : jj < dn := by
              have := Int.emod_lt_of_pos (J : Int) (by omega : (0 : Int) < dn)
              omega
            obtain ⟨g5, rfl, hg5, hC5⟩ := HF5.out jj hjd
            have hco5 := hC5.at jj (by unfold natI; rw [List.length_map, HDN.out]; exact hjd)
            rw [natI_at] at hco5
            have hg5l := hC5.1
            obtain ⟨x, hx⟩ : ∃ x, (diffs W o)[jj]?.getD 0 = x := ⟨_, rfl⟩
            have hxm : x ∈ diffs W o := by
              rw [← hx, List.getElem?_eq_getElem (by rw [HDN.out]; exact hjd)]; exact List.getElem_mem _
            have HDec3 : Hid (decB W q (zs ++ [(x : Int)]) = (o, dn, 0)) := by
              have := dec_more HG.out x hxm
              rw [HDN.out] at this; exact this
            rw [hx] at hco5
            have hjd' : (jj : Int) < (dn : Int) := by omega
            have hwz5 := HB5.out.size
            have HRd5 := Lib.hid (HRd.out.kept HB5.out)
            have e8 : IntKind.i64.wrap (J : Int) = (J : Int) := IntWalk.i64_in _ (by omega)
            have e9 : (J : Int).tmod (dn : Int) = (jj : Int) := by rw [← hjj, Int.tmod_eq_emod_of_nonneg (by omega)]
            have e10 : jj ≤ 60 := by omega
            clear hx hxm hC5
            go_wp2_with fail
            go_region_law ((first
              | (refine step_append_rd (by rfl) (.tmp 99) (.tmp 100) 23 3 (by rfl) Try.underlying23 Try.infoI64 w5.heap.size (.slice (some ⟨w5.heap.size, 0, none⟩) 0 0) 0 [] (by rfl) (own_i w5) (bel_i w5).size (.slice a2 nz cap) zs (by rfl) (HRd5.out.kept (bel_i w5)) HNil.out (by rw [HNZ.out]; omega) ?_; intro v1 w6 hown1 hg1; have hbA : Below w5.heap.size w5 w6 := Below.trans (bel_i w5) (below_grown (own_i w5) hg1 (bel_i w5).size (Nat.le_refl _)); have hcA : w6.cell? ⟨g5, jj, none⟩ = some (.int .i64 (x : Int)) := (hbA.cell (p := ⟨g5, jj, none⟩) hg5l).trans hco5)
              | (refine step_append_rd (by rfl) (.tmp 99) (.tmp 100) 23 3 (by rfl) Try.underlying23 Try.infoI64 w5.heap.size (.slice (some ⟨w5.heap.size, 0, none⟩) 0 0) 0 [] (by rfl) (own_ii w5 x) (bel_ii w5 x).size (.slice a2 nz cap) zs (by rfl) (HRd5.out.kept (bel_ii w5 x)) HNil.out (by rw [HNZ.out]; omega) ?_; intro v1 w6 hown1 hg1; have hbA : Below w5.heap.size w5 w6 := Below.trans (bel_ii w5 x) (below_grown (own_ii w5 x) hg1 (bel_ii w5 x).size (Nat.le_refl _)); have hcA : w6.cell? ⟨g5, jj, none⟩ = some (.int .i64 (x : Int)) := (hbA.cell (p := ⟨g5, jj, none⟩) hg5l).trans hco5)
              | (refine step_append_rd (by rfl) (.tmp 99) (.tmp 100) 23 3 (by rfl) Try.underlying23 Try.infoI64 w5.heap.size (.slice (some ⟨w5.heap.size + 1, 0, none⟩) 0 0) 0 [] (by rfl) (own_iii w5 x) (bel_iii w5 x).size (.slice a2 nz cap) zs (by rfl) (HRd5.out.kept (bel_iii w5 x)) HNil.out (by rw [HNZ.out]; omega) ?_; intro v1 w6 hown1 hg1; have hbA : Below w5.heap.size w5 w6 := Below.trans (bel_iii w5 x) (below_grown (own_iii w5 x) hg1 (bel_iii w5 x).size (Nat.le_refl _)); have hcA : w6.cell? ⟨g5, jj, none⟩ = some (.int .i64 (x : Int)) := (hbA.cell (p := ⟨g5, jj, none⟩) hg5l).trans hco5)
              | (refine step_append_rd (by rfl) (.tmp 101) (.tmp 109) 23 3 (by rfl) Try.underlying23 Try.infoI64 w5.heap.size v1 (0 + zs.length) ([] ++ zs) (by rfl) (hown1.alloc _) ((hbA.alloc hbA.size _).size) (.slice (some ⟨w6.heap.size, 0, none⟩) 1 1) [(x : Int)] (by rfl) (rd_now w6 _) (fun _ => ⟨_, _, _, rfl⟩) (by have := HNZ.out; simp; omega) ?_; intro v7 w7 hown2 hg2; have hbB : Below w5.heap.size w5 w7 := Below.trans (hbA.alloc hbA.size _) (below_grown (hown1.alloc _) hg2 ((hbA.alloc hbA.size _).size) (Nat.le_refl _)))
              | (refine step_append_rd (by rfl) (.tmp 101) (.tmp 109) 23 3 (by rfl) Try.underlying23 Try.infoI64 w5.heap.size v1 (0 + zs.length) ([] ++ zs) (by rfl) (hown1) (hbA.size) (.slice (some ⟨w5.heap.size + 1, 0, none⟩) 1 1) [(x : Int)] (by rfl) (rd_ii w5 w6 x hg1) (fun _ => ⟨_, _, _, rfl⟩) (by have := HNZ.out; simp; omega) ?_; intro v7 w7 hown2 hg2; have hbB : Below w5.heap.size w5 w7 := Below.trans (hbA) (below_grown (hown1) hg2 (hbA.size) (Nat.le_refl _)))
              | (refine step_append_rd (by rfl) (.tmp 101) (.tmp 109) 23 3 (by rfl) Try.underlying23 Try.infoI64 w5.heap.size v1 (0 + zs.length) ([] ++ zs) (by rfl) (hown1) (hbA.size) (.slice (some ⟨w5.heap.size, 0, none⟩) 1 1) [(x : Int)] (by rfl) (rd_iii w5 w6 x hg1) (fun _ => ⟨_, _, _, rfl⟩) (by have := HNZ.out; simp; omega) ?_; intro v7 w7 hown2 hg2; have hbB : Below w5.heap.size w5 w7 := Below.trans (hbA) (below_grown (hown1) hg2 (hbA.size) (Nat.le_refl _)))
              | (go_simp; go_at_call 16; refine (decode_x s X W o q v7 (zs ++ [(x : Int)]) dn w7 HW.out (slI_of_owns (l := zs ++ [(x : Int)]) hown2 (by simp)).rd (by have := HNZ.out; simp; omega) HDec3.out HX.out).mono ?_; rintro e w8 ⟨rfl, hb8⟩)))
            all_goals
              have HB8 : Hid (Below w.heap.size w w8) := HB5.out.trans ((hbB.trans (hb8.mono hbB.size)).mono hwz5)
              clear hbB hb8 hbA hown1 hown2 hg1 hg2
              go_wp2
              go_ret
              exact ⟨rfl, HB8.out⟩
end Go.Proofs.Ytamkahjdedomlaa
