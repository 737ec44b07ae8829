/-
  The walk of the law RsdecodeSound.
-/
import Derived.Test.YtamkahjdedomlaaRdPre
namespace Go.Proofs.Ytamkahjdedomlaa
open Go.RowKit
set_option linter.unusedVariables false

set_option maxRecDepth 100000 in
set_option maxHeartbeats 4000000 in
theorem rsdecodeSound.walk (w : World) (s : ByteArray) (w0 : s.size ≤ maxLen) (p : Int) (w1 : (Lit.int .i64 p).wf = true) (v2 : Value) (zs : List Int) (hz : IsInts .i64 w v2 zs) :
    Calls Try.prog 6 #[.string s, .int .i64 p, v2] w fun e w' => e = .returned (.bool true) ∧ Below w.heap.size w w' := by
  obtain ⟨a2, off, cap, hv2, hf2⟩ := hz.rd.form
  obtain ⟨nz, hnz⟩ : ∃ nz, zs.length = nz := ⟨_, rfl⟩
  have hnzb : nz ≤ maxLen := by
    rcases hz with ⟨_, _, _, rfl⟩ | ⟨_, _, _, _, h2, h3, _⟩
    · simp at hnz; omega
    · omega
  rw [hnz] at hv2 hf2
  have HRd := Lib.hid hz.rd
  have HWf := Lib.hid hz.wf
  have HNZ := Lib.hid hnz
  have HF2 := Lib.hid hf2
  subst hv2
  unfold maxLen at w0 hnzb
  obtain ⟨W, hW⟩ : ∃ W, s.data.toList = W := ⟨_, rfl⟩
  have HW := Lib.hid hW
  obtain ⟨b, hb⟩ : ∃ b, smallB s.size p nz = b := ⟨_, rfl⟩
  have HBb := Lib.hid hb
  have HWp := Lib.hid w1
  clear hz hf2 hnz hW hb w1
  cases b with
  | false =>
    go_enter Try.func6, Try.ntmps6
    go_wp2_with fail
    refine (alive_any _).mono ?_
    rintro e w1 ⟨rfl, hB1⟩
    have HB1 := Lib.hid hB1
    clear hB1
    go_wp2_with fail
    refine (small_any s p a2 nz cap _ w0 hnzb false HBb).mono ?_
    rintro e w2 ⟨rfl, rfl⟩
    go_wp2
    go_ret
    exact ⟨rfl, HB1.out⟩
  | true =>
    have hsm := of_decide_eq_true HBb.out
    obtain ⟨hs60, hp16, hn40⟩ := hsm
    obtain ⟨D, hD⟩ : ∃ D, decB W p zs = D := ⟨_, rfl⟩
    have HD := Lib.hid hD
    have hcases := decB_sound W p zs
    rw [hD] at hcases
    clear hD
    go_enter Try.func6, Try.ntmps6
    go_wp2_with fail
    refine (alive_any _).mono ?_
    rintro e w1 ⟨rfl, hB1⟩
    have HB1 := Lib.hid hB1
    clear hB1
    go_wp2_with fail
    refine (small_any s p a2 nz cap _ w0 hnzb true HBb).mono ?_
    rintro e w2 ⟨rfl, rfl⟩
    have HC := Lib.hid hcases
    clear hcases
    go_wp2_with fail
    refine (decode_r s W p _ zs D _ HW.out (HRd.out.kept HB1.out) (by rw [HNZ.out]; omega) HD).mono ?_
    rintro e w3 ⟨rfl, hB3⟩
    have HB3 := Lib.hid (bt HB1.out hB3)
    clear hB3
    rcases HC.out with rfl | rfl | ⟨q, o, rfl, rfl, G⟩
    · clear HC
      go_wp2
      go_ret
      exact ⟨rfl, HB3.out⟩
    · clear HC
      go_wp2
      go_ret
      exact ⟨rfl, HB3.out⟩
    · clear HC
      obtain ⟨X, hX, hXd, hXs⟩ := str_of o
      have hGl := G.len
      have hWs : W.length = s.size := by rw [← HW.out]; rfl
      have hq64 := G.ok.2.1
      have hXs2 : X.size = s.size := by omega
      have hol : o.length = s.size := by omega
      have HOL := Lib.hid hol
      have HG := Lib.hid G
      have HX := Lib.hid hX
      have hxi : (X.size : Int) = s.size := by omega
      rw [hX]
      have HAT : Hid (∀ k (h : k < X.size), X[k] = o[k]?.getD 0) := by
        intro k h
        rw [← hXd, Array.getElem?_toList, Array.getElem?_eq_getElem (by exact h)]; rfl
      have HBT : Hid (∀ k (h : k < s.size), s[k] = W[k]?.getD 0) := by
        intro k h
        rw [← HW.out, Array.getElem?_toList, Array.getElem?_eq_getElem (by exact h)]; rfl
      have HXS := Lib.hid hXs2
      clear hX hXd hXs hGl hWs hXs2 hol G
      obtain ⟨dn, hdn⟩ : ∃ dn, (diffs W o).length = dn := ⟨_, rfl⟩
      rw [hdn]
      have HDN := Lib.hid hdn
      have hmm := @run_makeMap Try.prog
      clear hdn
      go_wp2
      go_loopw [11] (fun i wr => ∃ k : Nat, k ≤ nz ∧ i = .int .i64 k ∧ Hid (IsSet wr w3.heap.size (setTo zs k) ∧ Below w.heap.size w wr)) (fun i _ => nz - (intOf i).toNat)
      case atStart => exact ⟨0, Nat.zero_le _, rfl, MapIs.made _ _ _ _ _, HB3.out.alloc HB3.out.size _⟩
      case round =>
        clear hmm
        obtain ⟨k, hk, rfl, HR⟩ := hrel
        by_cases hlt : k < nz
        · obtain ⟨b2, rfl, hb2, hc2⟩ := HF2.out k hlt
          have hco : wr.cell? ⟨b2, off + k, none⟩ = some (.int .i64 (zs[k]?.getD 0)) := (HR.out.2.cell (p := ⟨b2, off + k, none⟩) hb2).trans hc2
          obtain ⟨z, hz⟩ : ∃ z, zs[k]?.getD 0 = z := ⟨_, rfl⟩
          have hzw : (Lit.int .i64 z).wf = true := HWf.out z (by rw [← hz, List.getElem?_eq_getElem (by rw [HNZ.out]; exact hlt)]; exact List.getElem_mem _)
          have HS : Hid (setTo zs (k + 1) = putK (setTo zs k) z true) := by unfold Hid; rw [← hz]; rfl
          have HSl := Lib.hid (setTo_len zs k)
          have HZW := Lib.hid hzw
          have hz3 := HB3.out.size
          rw [hz] at hco
          clear hz hzw hc2
          go_wp2_with (at_mapUpdate; refine wpList_map_store encI rfl _ _ _ 40 rfl Try.underlying40 w3.heap.size (setTo zs k) rfl HR.out.1 (by have := HSl.out; unfold maxLen; omega) z true rfl rfl (keyI HZW.out) ?_; intro w4 hm4 hg4)
          have hb4 := HR.out.2.size
          go_roundw
          case rel => exact ⟨k + 1, by omega, by go_num, by rw [HS.out]; exact hm4, bd_grown HR.out.2 hg4 hb4 hz3⟩
          case measure => simp [intOf] <;> omega
        · have HK : Hid (k = nz) := by unfold Hid; omega
          have hnk : nz ≤ k := by omega
          have HM : Hid (IsSet wr w3.heap.size (setTo zs zs.length)) := by have := HR.out.1; rw [HK.out, ← HNZ.out] at this; exact this
          have HRB : Hid (Below w.heap.size w wr) := HR.out.2
          obtain ⟨S, hS⟩ : ∃ S, setTo zs zs.length = S := ⟨_, rfl⟩
          have HSn : Hid (∀ x, (getK S x).isNone = !(lostB zs).contains x) := by unfold Hid; rw [← hS]; exact setTo_none zs
          have HSt : Hid (∀ x b, getK S x = some b → b = true) := by unfold Hid; rw [← hS]; exact setTo_true zs _
          have hSl : S.length = (lostB zs).length := by rw [← hS]; exact setTo_all zs
          have HErr : Hid (errN o W S o.length = wrongTo (diffs W o) (lostB zs) (diffs W o).length) := by rw [← hS]; exact errN_wrong W o zs HG.out.len
          have HAll : Hid (allN o W o.length = dn) := by rw [← HDN.out]; exact allN_diffs W o HG.out.len
          rw [hS] at HM
          have hrad := HG.out.rad
          rw [← hSl, ← HErr.out] at hrad
          obtain ⟨sl, hsl⟩ : ∃ sl, S.length = sl := ⟨_, rfl⟩
          obtain ⟨ee, hee⟩ : ∃ ee, errN o W S o.length = ee := ⟨_, rfl⟩
          rw [hsl, hee] at hrad
          have HSL := Lib.hid hsl
          have HEE := Lib.hid hee
          clear hS hSl hsl hee HR HErr
          have h1e : ((X.size : Int) == (s.size : Int)) = true := by rw [beq_iff_eq]; exact hxi
          have h1n : ((X.size : Int) != (s.size : Int)) = false := by rw [bne, h1e]; rfl
          have hic := fun w => iscw_r o s.size q true HG.out.ok.1 HOL.out (by omega) HG.out.cw w
          rw [HX.out] at hic
          have HIC := Lib.hid hic
          clear hic
          go_wp2_with fail
          refine (HIC.out _).mono ?_
          rintro e w5 ⟨rfl, hb5⟩
          have HB5 := Lib.hid (bt HRB.out hb5)
          have HM5 := Lib.hid (HM.out.kept hb5)
          clear hb5
          go_wp2
          go_loopw [12, 13, 14] (fun er al i wr => ∃ k : Nat, k ≤ X.size ∧ i = .int .i64 k ∧ er = .int .i64 (errN o W S k) ∧ al = .int .i64 (allN o W k) ∧ ∃ qq, Hid (wr = w5.drewN qq)) (fun _ _ i _ => X.size - (intOf i).toNat)
          case atStart => exact ⟨0, Nat.zero_le _, rfl, rfl, rfl, 0, rfl⟩
          case round =>
            obtain ⟨k2, hk2, rfl, rfl, rfl, qq, HQ⟩ := hrel
            have hele := errN_le o W S k2
            have hale := difN_len o W k2
            by_cases hlt2 : k2 < X.size
            · have hlts : k2 < s.size := by omega
              have hsx := HAT.out k2 hlt2
              have hsw := HBT.out k2 hlts
              have e5 : (k2 : Int) < (X.size : Int) := by omega
              have e6 : (k2 : Int) < (s.size : Int) := by omega
              obtain ⟨x, hx⟩ : ∃ x, o[k2]?.getD 0 = x := ⟨_, rfl⟩
              obtain ⟨y, hy⟩ : ∃ y, W[k2]?.getD 0 = y := ⟨_, rfl⟩
              rw [hx] at hsx
              rw [hy] at hsw
              have HMr : Hid (IsSet wr w3.heap.size S) := by unfold Hid; rw [HQ.out]; exact HM5.out.drewN qq
              by_cases hxy : x = y
              · have HA : Hid (allN o W (k2 + 1) = allN o W k2) := allN_same (by rw [hx, hy]; exact hxy)
                have HE : Hid (errN o W S (k2 + 1) = errN o W S k2) := errN_same (by rw [hx, hy]; exact hxy)
                subst hxy
                clear hx hy
                go_wp2_with fail
                go_quiet (fail)
                go_wp2
                go_roundw
                case rel => exact ⟨k2 + 1, by omega, by go_num, by rw [HE.out], by rw [HA.out], qq + nq, by unfold Hid; rw [HQ.out, World.drewN_drewN]⟩
                case measure => simp [intOf] <;> omega
              · have hd : o[k2]?.getD 0 ≠ W[k2]?.getD 0 := by rw [hx, hy]; exact hxy
                have HA : Hid (allN o W (k2 + 1) = allN o W k2 + 1) := allN_diff hd
                have hne : ((x.toNat : Int) == (y.toNat : Int)) = false := u8_ne x y _ rfl hxy
                have hne' : ((x.toNat : Int) != (y.toNat : Int)) = true := by rw [bne, hne]; rfl
                have HDf := Lib.hid hd
                clear hx hy hd hxy
                cases hgk : getK S (k2 : Int) with
                | none =>
                  have HGK := Lib.hid hgk
                  have HE : Hid (errN o W S (k2 + 1) = errN o W S k2 + 1) := errN_out HDf.out (by rw [hgk]; rfl)
                  clear hgk
                  obtain ⟨ea, hea⟩ : ∃ ea, errN o W S k2 = ea := ⟨_, rfl⟩
                  obtain ⟨al, hal⟩ : ∃ al, allN o W k2 = al := ⟨_, rfl⟩
                  have hal' : (difN o W k2).length = al := hal
                  rw [hea] at HE hele ⊢
                  rw [hal] at HA ⊢
                  rw [hal'] at hale
                  clear hea hal hal'
                  go_wp2_with fail
                  go_quiet (fail)
                  go_wp2_with (at_lookup; refine wpList_map_miss encI rfl _ _ 40 rfl Try.underlying40 (.bool false) (zeroBool _) w3.heap.size S rfl (HMr.out.drewN nq) (k2 : Int) rfl (keyN k2 (by omega)) HGK.out ?_)
                  go_roundw
                  case rel => exact ⟨k2 + 1, by omega, by go_num, by rw [HE.out]; go_num, by rw [HA.out]; go_num, qq + nq, by unfold Hid; rw [HQ.out, World.drewN_drewN]⟩
                  case measure => simp [intOf] <;> omega
                | some bb =>
                  obtain rfl := HSt.out _ _ hgk
                  have HGK := Lib.hid hgk
                  have HE : Hid (errN o W S (k2 + 1) = errN o W S k2) := errN_in HDf.out (by rw [hgk]; rfl)
                  clear hgk
                  obtain ⟨ea, hea⟩ : ∃ ea, errN o W S k2 = ea := ⟨_, rfl⟩
                  obtain ⟨al, hal⟩ : ∃ al, allN o W k2 = al := ⟨_, rfl⟩
                  have hal' : (difN o W k2).length = al := hal
                  rw [hea] at HE hele ⊢
                  rw [hal] at HA ⊢
                  rw [hal'] at hale
                  clear hea hal hal'
                  go_wp2_with fail
                  go_quiet (fail)
                  go_wp2_with (at_lookup; refine wpList_map_hit encI rfl _ _ 40 rfl Try.underlying40 (.bool false) (zeroBool _) w3.heap.size S rfl (HMr.out.drewN nq) (k2 : Int) rfl (keyN k2 (by omega)) true HGK.out ?_)
                  go_roundw
                  case rel => exact ⟨k2 + 1, by omega, by go_num, by rw [HE.out], by rw [HA.out]; go_num, qq + nq, by unfold Hid; rw [HQ.out, World.drewN_drewN]⟩
                  case measure => simp [intOf] <;> omega
            · have HK2 : Hid (k2 = o.length) := by unfold Hid; rw [HOL.out]; omega
              have hkx : X.size ≤ k2 := by omega
              rw [show errN o W S k2 = ee by rw [HK2.out]; exact HEE.out] at hele ⊢
              rw [show allN o W k2 = dn by rw [HK2.out]; exact HAll.out]
              have HMr : Hid (IsSet wr w3.heap.size S) := by unfold Hid; rw [HQ.out]; exact HM5.out.drewN qq
              have hml := fun ty => HMr.out.size_eq Try.underlying40 ty
              rw [HSL.out] at hml
              have HBf : Hid (Below w.heap.size w wr) := by unfold Hid; rw [HQ.out]; exact bdN HB5.out qq
              have hsl : sl ≤ 64 := by omega
              have hfin : decide ((2 : Int) * ee + sl ≤ q) = true := decide_eq_true (by omega)
              have hfin2 : (2 : Int) * ee + sl ≤ q := by omega
              go_wp2
              go_ret
              exact ⟨rfl, HBf.out⟩
end Go.Proofs.Ytamkahjdedomlaa
