/-
  The walk of the law's damage.
-/
import Derived.Test.YtamkahjdedomlaaRdPre
import Derived.Test.YtamkahjdedomlaaRdCodewordW
import Derived.Test.YtamkahjdedomlaaBools
import Derived.Test.YtamkahjdedomlaaDamPlain
namespace Go.Proofs.Ytamkahjdedomlaa
open Go.RowKit
set_option linter.unusedVariables false

theorem ba_ext8 {X : ByteArray} {c : List UInt8} (h : X.data.toList = c) : X = ⟨c.toArray⟩ := by subst h; rfl
theorem own_ne {w : World} {base n : Nat} {e : TypeId} {v : Value} {cs : List Value} {M : Nat} (h : w.ownsRow base e 1 v n cs) (hM : M < base) : v.ownBlock = none ∨ v.ownBlock ≠ some M := by
  rcases h.2 with ⟨hv, _⟩ | ⟨g, cap, cur, hv, hgb, _⟩
  · subst hv; exact Or.inl rfl
  · subst hv
    refine Or.inr fun e => ?_
    have e2 : g = M := Option.some.inj e
    omega
theorem own_ne' {w : World} {base n : Nat} {e : TypeId} {v : Value} {cs : List Value} {M : Nat} (h : w.ownsRow base e 1 v n cs) (hM : M < base) : some M ≠ v.ownBlock := by
  rcases own_ne h hM with e | e
  · rw [e]; exact fun c => by cases c
  · exact fun c => e c.symm
theorem owns_below {w w' : World} {base n : Nat} {e : TypeId} {v : Value} {cs : List Value} (h : w.ownsRow base e 1 v n cs) (hb : Below w.heap.size w w') : w'.ownsRow base e 1 v n cs := by
  refine ⟨h.1, ?_⟩
  rcases h.2 with e | ⟨g, cap, cur, hv, hgb, hg, r⟩
  · exact Or.inl e
  · exact Or.inr ⟨g, cap, cur, hv, hgb, (hb.block g (Array.getElem?_eq_some_iff.1 hg).1).trans hg, r⟩
theorem size_mk (W : List UInt8) (n : Nat) (h : W.length = n) : (⟨W.toArray⟩ : ByteArray).size = n := by subst h; exact List.size_toArray
/-- What the loop of damage keeps. -/
def DamRel (B : Nat) (w0 : World) (M : Nat) (c : List UInt8) (p : Nat) (W : List UInt8) (lost : List Int) (S : List (Int × Bool)) (b : Nat) (lv : Value) (wr : World) : Prop :=
  Dam c p W lost S b ∧ wr.ownsRow (B + 1) 3 1 lv lost.length (lost.map i64v) ∧ IsSet wr M S ∧ Below B w0 wr ∧ B < wr.heap.size

set_option maxRecDepth 100000 in
set_option maxHeartbeats 8000000 in
theorem damage_any (X : ByteArray) (c : List UInt8) (p nA : Nat) (va vb ve : Value) (al bl : List Int) (el : List Bool) (w : World) (hX : X.data.toList = c) (hp : p ≤ 16) (hN : 1 ≤ X.size) (hN2 : X.size ≤ 100) (hnA : al.length = nA) (hn40 : nA ≤ 40)
    (hA : IsInts .u8 w va al) (hB : IsInts .u8 w vb bl) (hE : IsBools w ve el) :
    Calls Try.prog 19 #[.string X, .int .i64 p, va, vb, ve] w fun e w' => ∃ (W : List UInt8) (lost : List Int) (S : List (Int × Bool)) (b : Nat) (v' : Value), Dam c p W lost S b ∧ e = .returned (.tuple #[.string ⟨W.toArray⟩, v', .int .i64 (difN c W X.size).length]) ∧ SlI w' w.heap.size v' lost ∧ Below w.heap.size w w' := by
  obtain ⟨aA, oA, cA, rfl, _, hfA, hwA⟩ := hA.form8
  obtain ⟨aB, oB, cB, hvB, hlB, hfB, hwB⟩ := hB.form8
  obtain ⟨aE, oE, cE, hvE, hlE, hfE⟩ := hE
  obtain ⟨nB, hnB⟩ : ∃ n, bl.length = n := ⟨_, rfl⟩
  obtain ⟨nE, hnE⟩ : ∃ n, el.length = n := ⟨_, rfl⟩
  rw [hnA] at hfA ⊢
  rw [hnB] at hvB hlB hfB
  rw [hnE] at hvE hlE hfE
  subst hvB hvE
  unfold maxLen at hlB hlE
  have hcl : c.length = X.size := by rw [← hX]; rfl
  have HX := Lib.hid hX
  have HCL := Lib.hid hcl
  have HFA := Lib.hid hfA
  have HFB := Lib.hid hfB
  have HFE := Lib.hid hfE
  have HWA := Lib.hid hwA
  have HWB := Lib.hid hwB
  have HNA := Lib.hid hnA
  have HNB := Lib.hid hnB
  have HNE := Lib.hid hnE
  have hmm := @run_makeMap Try.prog
  clear hX hcl hfA hfB hfE hwA hwB hnA hnB hnE hA hB
  go_enter Try.func19, Try.ntmps19
  go_wp2
  go_loopw [13, 14, 16, 17] (fun wv lv bv i wr => ∃ (k b : Nat) (W : List UInt8) (lost : List Int) (S : List (Int × Bool)), k ≤ nA ∧ b ≤ 16 ∧ i = .int .i64 k ∧ bv = .int .i64 b ∧ wv = .string ⟨W.toArray⟩ ∧ S.length ≤ k ∧ Hid (DamRel w.heap.size w w.heap.size c p W lost S b lv wr)) (fun _ _ _ i _ => nA - (intOf i).toNat)
  case atStart => exact ⟨0, p, c, [], [], Nat.zero_le _, hp, rfl, rfl, congrArg Value.string (ba_ext8 HX.out), Nat.zero_le _, Dam.start c p, World.ownsRow_nil _ _ _ _, MapIs.made _ _ _ _ _, (Below.refl _ _).alloc (Nat.le_refl _) _, by simp⟩
  case round =>
    clear hmm
    obtain ⟨k, b, W, lost, S, hk, hb16, rfl, rfl, rfl, hSk, HR⟩ := hrel
    obtain ⟨wo, rfl⟩ : ∃ wo : World, wo = wr := ⟨_, rfl⟩
    by_cases hlt : k < nA
    · obtain ⟨bA, rfl, hbA, hcA⟩ := HFA.out k hlt
      obtain ⟨z, hz⟩ : ∃ z, al[k]?.getD 0 = z := ⟨_, rfl⟩
      obtain ⟨Z, hZ, rfl⟩ := u8_nat (HWA.out z (by rw [← hz, List.getElem?_eq_getElem (by rw [HNA.out]; exact hlt)]; exact List.getElem_mem _))
      have hcoA : wo.cell? ⟨bA, oA + k, none⟩ = some (.int .u8 (Z : Int)) := by rw [← hz]; exact (HR.out.2.2.2.1.cell (p := ⟨bA, oA + k, none⟩) hbA).trans hcA
      clear hcA hz
      obtain ⟨kk, hkk⟩ : ∃ kk : Nat, (Z : Int) % (X.size : Int) = kk := ⟨Z % X.size, by omega⟩
      have hkkN : kk < X.size := by
        have := Int.emod_lt_of_pos (Z : Int) (by omega : (0 : Int) < X.size)
        omega
      obtain ⟨val, hval⟩ : ∃ val : UInt8, (k < nB → bl[k]?.getD 0 = ((val.toNat : Nat) : Int)) ∧ (¬ k < nB → val = 1) := by
        by_cases h : k < nB
        · obtain ⟨V, hV, e⟩ := u8_nat (HWB.out (bl[k]?.getD 0) (by rw [List.getElem?_eq_getElem (by rw [HNB.out]; exact h)]; exact List.getElem_mem _))
          exact ⟨UInt8.ofNat V, fun _ => by rw [e]; congr 1; rw [UInt8.toNat_ofNat']; omega, fun c => absurd h c⟩
        · exact ⟨1, fun c => absurd c h, fun _ => rfl⟩
      have HVal := Lib.hid hval
      clear hval
      obtain ⟨er, her⟩ : ∃ er : Bool, (k < nE → el[k]?.getD false = er) ∧ (¬ k < nE → er = false) := by
        by_cases h : k < nE
        · exact ⟨_, fun _ => rfl, fun c => absurd h c⟩
        · exact ⟨false, fun c => absurd c h, fun _ => rfl⟩
      have HEr := Lib.hid her
      clear her
      go_upto_if 43 with (fail)
      go_cut [19] (fun s19 wx => s19 = .int .u8 val.toNat ∧ wo = wx)
      case first =>
        by_cases h : k < nB
        · obtain ⟨bB, rfl, hbB, hcB⟩ := HFB.out k h
          have hcoB : wo.cell? ⟨bB, oB + k, none⟩ = some (.int .u8 ((val.toNat : Nat) : Int)) := by rw [← HVal.out.1 h]; exact (HR.out.2.2.2.1.cell (p := ⟨bB, oB + k, none⟩) hbB).trans hcB
          clear hcB
          go_wp2
          go_meet
          exact ⟨rfl, rfl⟩
        · have hv1 := HVal.out.2 h
          go_wp2
          go_meet
          exact ⟨by rw [hv1]; rfl, rfl⟩
      case rest =>
        obtain ⟨rfl, rfl⟩ := hcut
        go_upto_region 13 with (fail)
        go_cut [57] (fun s57 wx => s57 = .bool er ∧ wo = wx)
        case first =>
          by_cases h : k < nE
          · obtain ⟨bE, rfl, hbE, hcE⟩ := HFE.out k h
            have hcoE : wo.cell? ⟨bE, oE + k, none⟩ = some (.bool er) := by rw [← HEr.out.1 h]; exact (HR.out.2.2.2.1.cell (p := ⟨bE, oE + k, none⟩) hbE).trans hcE
            clear hcE
            go_wp2
            go_meet
            exact ⟨rfl, rfl⟩
          · have hv1 := HEr.out.2 h
            go_wp2
            go_meet
            exact ⟨by rw [hv1], rfl⟩
        case rest =>
          obtain ⟨rfl, rfl⟩ := hcut
          rw [hkk]
          clear hkk hcoA
          have HM := Lib.hid HR.out.2.2.1
          have HO := Lib.hid HR.out.2.1
          have HD := Lib.hid HR.out.1
          have HBw := Lib.hid HR.out.2.2.2.1
          have hwo := HR.out.2.2.2.2
          have HW := Lib.hid (HR.out.1.len.trans HCL.out)
          have hkN : kk ≤ 1000000 := by omega
          have hSm : S.length < 9223372036854775807 := by omega
          have hll : lost.length ≤ 1000 := by
            have := nodup_sub_len lost (S.map (·.1)) HD.out.lnd HD.out.lin
            rw [List.length_map] at this; omega
          cases er with
          | true =>
            cases hgk : getK S (kk : Int) with
            | some bb =>
              obtain rfl := HD.out.tru _ _ hgk
              have HGK := Lib.hid hgk
              clear hgk
              go_wp2_with (at_lookup; refine wpList_map_hit encI rfl _ _ 40 rfl Try.underlying40 (.bool false) (zeroBool _) w.heap.size S rfl HM.out (kk : Int) rfl (keyN kk hkN) true HGK.out ?_)
              go_roundw
              case rel => exact ⟨k + 1, b, W, lost, S, by omega, hb16, by go_num, rfl, rfl, by omega, HR⟩
              case measure => simp [intOf] <;> omega
            | none =>
              have HGK := Lib.hid hgk
              clear hgk
              by_cases hb1 : 1 ≤ b
              · have HS1 := Lib.hid (HD.out.step1 (by rw [HCL.out]; exact hkkN) HGK.out (W[kk]?.getD 0 ^^^ val) hb1)
                have HSl := Lib.hid (putK_len S (kk : Int) true)
                go_wp2_with (first
                  | (at_lookup; refine wpList_map_miss encI rfl _ _ 40 rfl Try.underlying40 (.bool false) (zeroBool _) w.heap.size S rfl HM.out (kk : Int) rfl (keyN kk hkN) HGK.out ?_)
                  | (at_mapUpdate; refine wpList_map_store encI rfl _ _ _ 40 rfl Try.underlying40 w.heap.size S rfl HM.out (by unfold maxLen; omega) (kk : Int) true rfl rfl (keyN kk hkN) ?_; intro w4 hm4 hg4)
                  | (at_builtin; refine wpList_append_ints rfl _ _ 23 3 rfl Try.underlying23 Try.infoI64 (w.heap.size + 1) _ lost.length lost rfl ((HO.out.kept hg4 (own_ne HO.out (Nat.lt_succ_self _))).alloc _) rfl (by have := hg4.size; simp; omega) w4.heap.size 1 1 [(kk : Int)] rfl rfl (fun i hi => ((cellsI_one w4 _ _).at i hi)) (by omega) ?_; intro v5 w5 ho5 hg5))
                have HM5 := Lib.hid (((hm4.alloc (.cells #[.int .i64 (kk : Int)] 3))).grown hg5 (own_ne' ((HO.out.kept hg4 (own_ne HO.out (Nat.lt_succ_self _)))) (Nat.lt_succ_self _)))
                have hz4 := hg4.size
                have HB5 : Hid (Below w.heap.size w w5) := (bd_grown HBw.out hg4 (by omega) (Nat.le_refl _) |>.trans ((Below.refl _ w4).alloc (by omega) _)).trans (below_grown ((HO.out.kept hg4 (own_ne HO.out (Nat.lt_succ_self _))).alloc _) hg5 (by simp; omega) (by omega))
                have hz5 : w.heap.size < w5.heap.size := HM5.out.lt
                have HO5 := Lib.hid ho5
                clear ho5 hm4 hg4 hg5
                refine (change_any ⟨W.toArray⟩ W X.size kk val _ rfl (size_mk W _ HW.out) hkkN (by omega)).mono ?_
                rintro e w6 ⟨rfl, hb6⟩
                have hz6 := hb6.size
                have HB6 := Lib.hid (HB5.out.trans (hb6.mono (by omega)))
                have HM6 := Lib.hid (HM5.out.kept hb6)
                have HO6 : Hid (w6.ownsRow (w.heap.size + 1) 3 1 v5 (lost ++ [(kk : Int)]).length ((lost ++ [(kk : Int)]).map i64v)) := by
                  have := owns_below HO5.out hb6
                  unfold Hid; rw [List.length_append]; exact this
                clear hb6
                go_wp2
                go_roundw
                case rel => exact ⟨k + 1, b - 1, _, lost ++ [(kk : Int)], putK S (kk : Int) true, by omega, by omega, by go_num, congrArg (Value.int .i64) (by omega), rfl, by have := HSl.out; omega, HS1.out, HO6.out, HM6.out, HB6.out, by omega⟩
                case measure => simp [intOf] <;> omega
              · have hb0 : (b : Int) < 1 := by omega
                go_wp2_with (at_lookup; refine wpList_map_miss encI rfl _ _ 40 rfl Try.underlying40 (.bool false) (zeroBool _) w.heap.size S rfl HM.out (kk : Int) rfl (keyN kk hkN) HGK.out ?_)
                go_roundw
                case rel => exact ⟨k + 1, b, W, lost, S, by omega, hb16, by go_num, rfl, rfl, by omega, HR⟩
                case measure => simp [intOf] <;> omega
          | false =>
            by_cases hv0 : val = 0
            · have hvt : ((val.toNat : Int) == 0) = true := u8_eq val 0 0 rfl hv0
              clear hv0
              go_wp2
              go_roundw
              case rel => exact ⟨k + 1, b, W, lost, S, by omega, hb16, by go_num, rfl, rfl, by omega, HR⟩
              case measure => simp [intOf] <;> omega
            · have hvf : ((val.toNat : Int) == 0) = false := u8_ne val 0 0 rfl hv0
              clear hv0
              cases hgk : getK S (kk : Int) with
              | some bb =>
                obtain rfl := HD.out.tru _ _ hgk
                have HGK := Lib.hid hgk
                clear hgk
                go_wp2_with (at_lookup; refine wpList_map_hit encI rfl _ _ 40 rfl Try.underlying40 (.bool false) (zeroBool _) w.heap.size S rfl HM.out (kk : Int) rfl (keyN kk hkN) true HGK.out ?_)
                go_roundw
                case rel => exact ⟨k + 1, b, W, lost, S, by omega, hb16, by go_num, rfl, rfl, by omega, HR⟩
                case measure => simp [intOf] <;> omega
              | none =>
                have HGK := Lib.hid hgk
                clear hgk
                by_cases hb1 : 2 ≤ b
                · have HS1 := Lib.hid (HD.out.step (by rw [HCL.out]; exact hkkN) HGK.out (W[kk]?.getD 0 ^^^ val) hb1).1
                  have HSl := Lib.hid (putK_len S (kk : Int) true)
                  go_wp2_with (first
                    | (at_lookup; refine wpList_map_miss encI rfl _ _ 40 rfl Try.underlying40 (.bool false) (zeroBool _) w.heap.size S rfl HM.out (kk : Int) rfl (keyN kk hkN) HGK.out ?_)
                    | (at_mapUpdate; refine wpList_map_store encI rfl _ _ _ 40 rfl Try.underlying40 w.heap.size S rfl HM.out (by unfold maxLen; omega) (kk : Int) true rfl rfl (keyN kk hkN) ?_; intro w4 hm4 hg4))
                  have HM5 := Lib.hid hm4
                  have hz4 := hg4.size
                  have HB5 : Hid (Below w.heap.size w w4) := bd_grown HBw.out hg4 (by omega) (Nat.le_refl _)
                  have HO5 := Lib.hid (HO.out.kept hg4 (own_ne HO.out (Nat.lt_succ_self _)))
                  clear hm4 hg4
                  refine (change_any ⟨W.toArray⟩ W X.size kk val _ rfl (size_mk W _ HW.out) hkkN (by omega)).mono ?_
                  rintro e w6 ⟨rfl, hb6⟩
                  have hz6 := hb6.size
                  have HB6 := Lib.hid (HB5.out.trans (hb6.mono (by omega)))
                  have HM6 := Lib.hid (HM5.out.kept hb6)
                  have HO6 := Lib.hid (owns_below HO5.out hb6)
                  clear hb6
                  go_wp2
                  go_roundw
                  case rel => exact ⟨k + 1, b - 2, _, lost, putK S (kk : Int) true, by omega, by omega, by go_num, congrArg (Value.int .i64) (by omega), rfl, by have := HSl.out; omega, HS1.out, HO6.out, HM6.out, HB6.out, by omega⟩
                  case measure => simp [intOf] <;> omega
                · have hb0 : (b : Int) < 2 := by omega
                  go_wp2_with (at_lookup; refine wpList_map_miss encI rfl _ _ 40 rfl Try.underlying40 (.bool false) (zeroBool _) w.heap.size S rfl HM.out (kk : Int) rfl (keyN kk hkN) HGK.out ?_)
                  go_roundw
                  case rel => exact ⟨k + 1, b, W, lost, S, by omega, hb16, by go_num, rfl, rfl, by omega, HR⟩
                  case measure => simp [intOf] <;> omega
    · have hnk : nA ≤ k := by omega
      have hWl := HR.out.1.len.trans HCL.out
      have HAT : Hid (∀ k (h : k < X.size), X[k] = c[k]?.getD 0) := by
        intro k h
        rw [← HX.out, Array.getElem?_toList, Array.getElem?_eq_getElem (by exact h)]; rfl
      obtain ⟨Y, hY, hYd, hYs⟩ := str_of W
      rw [hY]
      have HBT : Hid (∀ k (h : k < Y.size), Y[k] = W[k]?.getD 0) := by
        intro k h
        rw [← hYd, Array.getElem?_toList, Array.getElem?_eq_getElem (by exact h)]; rfl
      have hYX : Y.size = X.size := by omega
      have HY := Lib.hid hY
      have HYX := Lib.hid hYX
      clear hY hYd hYs hYX hWl
      go_wp2
      go_loopw [21, 22] (fun c2 i wr => ∃ k : Nat, k ≤ X.size ∧ i = .int .i64 k ∧ c2 = .int .i64 (difN c W k).length ∧ ∃ q, Hid (wr = wo.drewN q)) (fun _ i _ => X.size - (intOf i).toNat)
      case atStart => exact ⟨0, Nat.zero_le _, rfl, rfl, 0, rfl⟩
      case round =>
        obtain ⟨k2, hk2, rfl, rfl, q, HQ⟩ := hrel
        have hdl := difN_len c W k2
        by_cases hlt2 : k2 < X.size
        · have hlty : k2 < Y.size := by rw [HYX.out]; exact hlt2
          have hsx := HAT.out k2 hlt2
          have hsy := HBT.out k2 hlty
          have e5 : (k2 : Int) < (X.size : Int) := by omega
          have e6 : (k2 : Int) < (Y.size : Int) := by omega
          have HS : Hid (difN c W (k2 + 1) = if c[k2]?.getD 0 = W[k2]?.getD 0 then difN c W k2 else difN c W k2 ++ [k2]) := rfl
          obtain ⟨x, hx⟩ : ∃ x, c[k2]?.getD 0 = x := ⟨_, rfl⟩
          obtain ⟨y, hy⟩ : ∃ y, W[k2]?.getD 0 = y := ⟨_, rfl⟩
          rw [hx] at hsx HS
          rw [hy] at hsy HS
          clear hx hy
          by_cases hxy : x = y
          · subst hxy
            have HS' : Hid (difN c W (k2 + 1) = difN c W k2) := by unfold Hid; rw [HS.out, if_pos rfl]
            clear HS
            go_wp2_with fail
            go_quiet (fail)
            go_wp2
            go_roundw
            case rel => exact ⟨k2 + 1, by omega, by go_num, by rw [HS'.out], q + nq, by unfold Hid; rw [HQ.out, World.drewN_drewN]⟩
            case measure => simp [intOf] <;> omega
          · have HS' : Hid (difN c W (k2 + 1) = difN c W k2 ++ [k2]) := by unfold Hid; rw [HS.out, if_neg hxy]
            have hne : ((x.toNat : Int) == (y.toNat : Int)) = false := u8_ne x y _ rfl hxy
            have hne' : ((x.toNat : Int) != (y.toNat : Int)) = true := by rw [bne, hne]; rfl
            clear HS hxy
            go_wp2_with fail
            go_quiet (fail)
            go_wp2
            go_roundw
            case rel => exact ⟨k2 + 1, by omega, by go_num, by rw [HS'.out, List.length_append]; go_num, q + nq, by unfold Hid; rw [HQ.out, World.drewN_drewN]⟩
            case measure => simp [intOf] <;> omega
        · have HK2 : Hid (k2 = X.size) := by unfold Hid; omega
          have hkx : X.size ≤ k2 := by omega
          have HF : Hid (SlI wr w.heap.size u14 lost ∧ Below w.heap.size w wr) := by
            unfold Hid; rw [HQ.out]
            exact ⟨(slI_of_owns (owns_drewN HR.out.2.1 q) rfl).mono (Nat.le_succ _), bdN HR.out.2.2.2.1 q⟩
          go_wp2
          go_ret3
          exact ⟨W, lost, S, b, _, HR.out.1, by rw [HY.out, HK2.out]; rfl, HF.out.1, HF.out.2⟩
end Go.Proofs.Ytamkahjdedomlaa
