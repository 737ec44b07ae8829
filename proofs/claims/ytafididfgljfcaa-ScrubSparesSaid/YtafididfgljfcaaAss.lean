/-
  Assess, walked.
-/
import Derived.Test.YtafididfgljfcaaAssP
import Derived.Test.YtafididfgljfcaaCnt
import Derived.Test.YtafididfgljfcaaDis
import Derived.Test.YtafididfgljfcaaKeys
namespace Go.Proofs.Ytafididfgljfcaa
open Go.RowKit
set_option linter.unusedVariables false

theorem SlI.form2 {w : World} {B : Nat} {v : Value} {l : List Int} (h : SlI w B v l) : ∃ a cap, v = .slice a l.length cap ∧ ∀ i, i < l.length → ∃ g, a = some ⟨g, 0, none⟩ ∧ g < w.heap.size ∧ w.cell? ⟨g, i, none⟩ = some (.int .i64 (l[i]?.getD 0)) := by
  rcases h with ⟨a, cap, rfl, rfl⟩ | ⟨g, cap, h1, h2, h3, h4, h5, h6⟩
  · exact ⟨a, cap, rfl, fun i hi => by simp at hi⟩
  · exact ⟨some ⟨g, 0, none⟩, cap, h1, fun i hi => ⟨g, rfl, h6.1, h6.at i hi⟩⟩
def AsRel (B : Nat) (w0 : World) (found : List (Fr × Int)) (F M : Nat) (a : Option Addr) (off : Nat) (D : List Fr) (k : Nat) (wr : World) : Prop :=
  MapIs wr Try.prog 39 Fr.v iv F found ∧ MapIs wr Try.prog 3 iv He.v M (assessM found (D.take k)) ∧ RowsAt 9 Fr.cs wr a off D ∧ Below B w0 wr
set_option maxRecDepth 100000 in
set_option maxHeartbeats 4000000 in
theorem assess_any (l : List Sg) (fs : List Fr) (nl nf : Nat) (v vf : Value) (w : World) (hnl : l.length = nl) (hnl2 : nl ≤ 100) (hnf : fs.length = nf) (hnf2 : nf ≤ 100) (hl : IsS 14 Sg.cs w v l) (hf : IsS 9 Fr.cs w vf fs)
    (hok : ∀ s ∈ l, s.frame.Ok ∧ 0 ≤ s.corr ∧ s.corr ≤ 52) (hfok : ∀ f ∈ fs, f.Ok) :
    Calls Try.prog 13 #[v, vf] w fun e w' => ∃ v', e = .returned v' ∧ IsS 5 He.cs w' v' (assessL l fs) ∧ Below w.heap.size w w' := by
  have HFound := Lib.hid (fok_counts fun s hs => (hok s hs).2)
  have HL := Lib.hid hl
  have HFs := Lib.hid hf
  have HOK := Lib.hid (fun s hs => (hok s hs).1)
  have HFOK := Lib.hid hfok
  have HNF := Lib.hid hnf
  have HNL := Lib.hid hnl
  have hmm := @run_makeMap Try.prog
  clear hl hf hok hfok hnl hnf
  go_enter Try.func13, Try.ntmps13
  go_wp2_with fail
  refine (counts_any l nl v w HNL.out hnl2 HL.out HOK.out).mono ?_
  rintro e w1 ⟨rfl, hm1, hb1⟩
  have HM1 := Lib.hid hm1
  have HB1 := Lib.hid hb1
  have hs1 : w.heap.size < w1.heap.size := hm1.lt
  clear hm1 hb1
  go_wp2_with fail
  refine (distinct_any fs nf vf _ HNF.out hnf2 ((HFs.out.kept HB1.out).kept ((Below.refl _ _).alloc (Nat.le_refl _) _)) HFOK.out).mono ?_
  rintro e w2 ⟨v2, rfl, hs2, hb2⟩
  obtain ⟨D, hD⟩ : ∃ D, distL fs = D := ⟨_, rfl⟩
  rw [hD] at hs2
  obtain ⟨a2, o2, c2, rfl, hD2, hr2⟩ := hs2
  have hDok : ∀ f ∈ D, f.Ok := fun f hm => HFOK.out f ((distL_mem fs f).1 (by rw [hD]; exact hm))
  have hDl : D.length ≤ 100 := by rw [← hD]; exact Nat.le_trans (distL_len fs) (by rw [HNF.out]; exact hnf2)
  obtain ⟨found, hfound⟩ : ∃ f, countsL l = f := ⟨_, rfl⟩
  rw [hfound] at HM1 HFound
  have HDok := Lib.hid hDok
  have HEq : Hid (assessL l fs = (lostB ((assessM found D).map (·.1))).map fun r => (getK (assessM found D) r).getD zeroH) := by unfold Hid assessL; rw [hfound, hD]
  have HR0 : Hid (AsRel w.heap.size w found w.heap.size w1.heap.size a2 o2 D 0 w2) :=
    ⟨(HM1.out.alloc _).kept hb2, (MapIs.made _ _ _ _ _).kept hb2, hr2, (HB1.out.alloc (Nat.le_of_lt hs1) _).trans (hb2.mono (by simp; omega))⟩
  obtain ⟨nD, hnD⟩ : ∃ n, D.length = n := ⟨_, rfl⟩
  rw [hnD] at hDl ⊢
  have HND := Lib.hid hnD
  clear hD hDok hr2 hb2 hnD hfound HFs HL HFOK HOK HB1 HM1 hmm hD2
  go_wp2_with fail
  go_loopw [21] (fun i wr => ∃ k : Nat, k ≤ nD ∧ i = .int .i64 k ∧ Hid (AsRel w.heap.size w found w.heap.size w1.heap.size a2 o2 D k wr)) (fun i _ => nD - (intOf i).toNat)
  case atStart => exact ⟨0, Nat.zero_le _, rfl, HR0⟩
  case round =>
    clear HR0
    obtain ⟨k, hk, rfl, HR⟩ := hrel
    obtain ⟨wo, rfl⟩ : ∃ wo : World, wo = wr := ⟨_, rfl⟩
    by_cases hlt : k < nD
    · obtain ⟨s, hs⟩ : ∃ s, D[k]? = some s := ⟨_, List.getElem?_eq_getElem (by rw [HND.out]; exact hlt)⟩
      have hokS : s.Ok := HDok.out s (List.mem_of_getElem? hs)
      obtain ⟨bA, rfl, hbA, hrA⟩ := HR.out.2.2.1 k s hs
      have HRA := Lib.hid hrA
      have HS := Lib.hid (assessM_snoc found D k s hs)
      obtain ⟨lit, hlit⟩ := hokS.key
      have HKEY := Lib.hid hlit
      have HREEL := Lib.hid hokS.reel
      clear hrA hokS hlit
      obtain ⟨m, hm⟩ : ∃ m, assessM found (D.take k) = m := ⟨_, rfl⟩
      have hml : m.length ≤ k := by rw [← hm]; exact Nat.le_trans (assessM_len _ _) (by rw [List.length_take]; omega)
      have hho := assessM_ok HFound.out (D.take k) s.reel
      have hlk : (D.take k).length = k := by rw [List.length_take, HND.out]; omega
      rw [hm] at hho HS
      rw [hlk] at hho
      unfold astep at HS
      obtain ⟨h, hh⟩ : ∃ h, (getK m s.reel).getD zeroH = h := ⟨_, rfl⟩
      rw [hh] at hho HS
      have HGET := Lib.hid hh
      obtain ⟨r0, f0, mi0, wr0, co0⟩ := h
      obtain ⟨b1, b2, b3, b4, b5, b6, b7, b8⟩ := hho
      simp only at b1 b2 b3 b4 b5 b6 b7 b8
      have hMs : w1.heap.size < wo.heap.size := HR.out.2.1.lt
      have HM : Hid (MapIs (wo.alloc (.cells s.cs.toArray 39)) Try.prog 3 iv He.v w1.heap.size m) := by have := HR.out.2.1; rw [hm] at this; exact this.alloc _
      have HFm : Hid (MapIs wo Try.prog 39 Fr.v iv w.heap.size found) := HR.out.1
      have HRow := Lib.hid HR.out.2.2.1
      have HBl := Lib.hid HR.out.2.2.2
      clear hm hh hlk HR
      have HN1 : (wo.alloc (.cells s.cs.toArray 39)).heap.size = wo.heap.size + 1 := by simp
      cases hgf : getK found s with
      | none =>
        have HS' : Hid (assessM found (D.take (k + 1)) = putK m s.reel ⟨s.reel, f0, mi0 + 1, wr0, co0⟩) := by unfold Hid; rw [HS.out]; unfold hstep; rw [hgf]
        have HGF := Lib.hid hgf
        clear hgf HS
        go_wp2_with first
          | refine wpList_load_mid rfl 39 _ rfl bA _ rfl s.cs _ HRA.out Try.underlying39 rfl Try.size39 ?_
          | refine wpList_store_b rfl 39 _ _ rfl wo _ s.cs wo.heap.size rfl rfl rfl rfl Try.size39 rfl s.ones ?_
          | refine wpList_load_f1 rfl 3 _ rfl Try.isAgg3 wo _ _ wo.heap.size _ _ rfl rfl rfl rfl ?_
          | refine wpList_load_f1 rfl 3 _ rfl Try.isAgg3 (wo.alloc (.cells s.cs.toArray 39)) _ _ (wo.heap.size + 1) _ _ rfl rfl HN1 rfl ?_
          | refine wpList_store_f1 rfl 3 _ _ rfl Try.size3 (wo.alloc (.cells s.cs.toArray 39)) _ _ (wo.heap.size + 1) _ _ rfl rfl HN1 rfl rfl rfl (by decide) ?_
          | (at_lookup; refine wpList_map_get (enc_int Try.underlying3) rfl _ _ 55 rfl Try.underlying55 zeroH (Try.zeroValue31 _) w1.heap.size m rfl HM.out s.reel rfl (key_i64 HREEL.out) ⟨r0, f0, mi0, wr0, co0⟩ HGET.out ?_)
          | refine wpList_store_b rfl 31 _ _ rfl (wo.alloc (.cells s.cs.toArray 39)) _ (He.cs ⟨r0, f0, mi0, wr0, co0⟩) (wo.heap.size + 1) rfl rfl HN1 rfl Try.size31 rfl (He.ones _) ?_
          | refine wpList_load_f2 rfl 3 _ rfl Try.isAgg3 wo _ _ _ wo.heap.size _ _ rfl rfl rfl rfl ?_
          | refine wpList_load_s2 rfl 39 _ rfl _ wo s.cs _ _ wo.heap.size rfl rfl rfl Try.underlying39 rfl Try.size39 ?_
          | (at_lookup; refine wpList_map_ok_miss encF rfl _ _ 53 rfl Try.underlying53 (iv 0) (Try.zeroValue3 _) w.heap.size found rfl ((HFm.out.alloc _).alloc _) s rfl HKEY.out HGF.out ?_)
          | refine wpList_load_s1 rfl 31 _ rfl _ (wo.alloc (.cells s.cs.toArray 39)) _ _ (wo.heap.size + 1) rfl rfl HN1 Try.underlying31 rfl Try.size31 ?_
          | (at_mapUpdate; refine wpList_map_store (enc_int Try.underlying3) rfl _ _ _ 55 rfl Try.underlying55 w1.heap.size m rfl (HM.out.alloc _) (by unfold maxLen; omega) s.reel (⟨s.reel, f0, mi0 + 1, wr0, co0⟩ : He) rfl rfl (key_i64 HREEL.out) ?_; intro w5 hm5 hg5)
        go_roundw
        case rel =>
          refine ⟨k + 1, by omega, by go_num, ((HFm.out.alloc _).alloc _).grown hg5 (fun e => absurd (Option.some.inj e) (by omega)), ?_, ((HRow.out.alloc _).alloc _).map Fr.len (by omega) (HM.out.alloc _) hg5, bd_grown ((HBl.out.alloc (by omega) _).alloc (by simp; omega) _) hg5 (by simp; omega) (by omega)⟩
          rw [HS'.out]; exact hm5
        case measure => simp [intOf] <;> omega
      | some c =>
        have HS' : Hid (assessM found (D.take (k + 1)) = putK m s.reel ⟨s.reel, f0 + 1, mi0, max wr0 c, co0 + c⟩) := by unfold Hid; rw [HS.out]; unfold hstep; rw [hgf]
        obtain ⟨c0, c1⟩ := HFound.out s c hgf
        have HGF := Lib.hid hgf
        clear hgf HS
        go_wp2_with first
          | refine wpList_load_mid rfl 39 _ rfl bA _ rfl s.cs _ HRA.out Try.underlying39 rfl Try.size39 ?_
          | refine wpList_store_b rfl 39 _ _ rfl wo _ s.cs wo.heap.size rfl rfl rfl rfl Try.size39 rfl s.ones ?_
          | refine wpList_load_f1 rfl 3 _ rfl Try.isAgg3 wo _ _ wo.heap.size _ _ rfl rfl rfl rfl ?_
          | refine wpList_load_f1 rfl 3 _ rfl Try.isAgg3 (wo.alloc (.cells s.cs.toArray 39)) _ _ (wo.heap.size + 1) _ _ rfl rfl HN1 rfl ?_
          | refine wpList_store_f1 rfl 3 _ _ rfl Try.size3 (wo.alloc (.cells s.cs.toArray 39)) _ _ (wo.heap.size + 1) _ _ rfl rfl HN1 rfl rfl rfl (by decide) ?_
          | (at_lookup; refine wpList_map_get (enc_int Try.underlying3) rfl _ _ 55 rfl Try.underlying55 zeroH (Try.zeroValue31 _) w1.heap.size m rfl HM.out s.reel rfl (key_i64 HREEL.out) ⟨r0, f0, mi0, wr0, co0⟩ HGET.out ?_)
          | refine wpList_store_b rfl 31 _ _ rfl (wo.alloc (.cells s.cs.toArray 39)) _ (He.cs ⟨r0, f0, mi0, wr0, co0⟩) (wo.heap.size + 1) rfl rfl HN1 rfl Try.size31 rfl (He.ones _) ?_
          | refine wpList_load_f2 rfl 3 _ rfl Try.isAgg3 wo _ _ _ wo.heap.size _ _ rfl rfl rfl rfl ?_
          | refine wpList_load_s2 rfl 39 _ rfl _ wo s.cs _ _ wo.heap.size rfl rfl rfl Try.underlying39 rfl Try.size39 ?_
          | (at_lookup; refine wpList_map_ok_hit encF rfl _ _ 53 rfl Try.underlying53 (iv 0) (Try.zeroValue3 _) w.heap.size found rfl ((HFm.out.alloc _).alloc _) s rfl HKEY.out c HGF.out ?_)
          | refine wpList_load_s1 rfl 31 _ rfl _ (wo.alloc (.cells s.cs.toArray 39)) _ _ (wo.heap.size + 1) rfl rfl HN1 Try.underlying31 rfl Try.size31 ?_
          | (at_mapUpdate; refine wpList_map_store (enc_int Try.underlying3) rfl _ _ _ 55 rfl Try.underlying55 w1.heap.size m rfl (HM.out.alloc _) (by unfold maxLen; omega) s.reel (⟨s.reel, f0 + 1, mi0, max wr0 c, co0 + c⟩ : He) rfl rfl (key_i64 HREEL.out) ?_; intro w5 hm5 hg5)
        go_roundw
        case rel =>
          refine ⟨k + 1, by omega, by go_num, ((HFm.out.alloc _).alloc _).grown hg5 (fun e => absurd (Option.some.inj e) (by omega)), ?_, ((HRow.out.alloc _).alloc _).map Fr.len (by omega) (HM.out.alloc _) hg5, bd_grown ((HBl.out.alloc (by omega) _).alloc (by simp; omega) _) hg5 (by simp; omega) (by omega)⟩
          rw [HS'.out]; exact hm5
        case measure => simp [intOf] <;> omega
    · have hnk : nD ≤ k := by omega
      have HR2 := HR.out
      unfold AsRel at HR2
      rw [List.take_of_length_le (by rw [HND.out]; exact hnk)] at HR2
      obtain ⟨m, hm⟩ : ∃ m, assessM found D = m := ⟨_, rfl⟩
      have hml : m.length ≤ 100 := by rw [← hm]; exact Nat.le_trans (assessM_len _ _) (by rw [HND.out]; exact hDl)
      rw [hm] at HR2 HEq
      have HM := Lib.hid HR2.2.1
      have HBl := Lib.hid HR2.2.2.2
      have hMs : w1.heap.size < wo.heap.size := HM.out.lt
      have hkok : ∀ r ∈ m.map (·.1), (Lit.int .i64 r).wf = true := by
        intro r hr
        obtain ⟨es, clock, _, _, _, _, hkeys⟩ := HM.out
        obtain ⟨p, hp, rfl⟩ := List.mem_map.1 hr
        obtain ⟨lit, hlit⟩ := hkeys p hp
        obtain ⟨n, hn, _, hw⟩ := Maps.keyOf_i64 Try.underlying3 hlit
        cases hn; exact hw
      have HKOK := Lib.hid hkok
      clear hm hkok HR2 HR HND HDok
      go_wp2_with fail
      refine (maps_keys (some w1.heap.size) wo).mono ?_
      rintro e w3 ⟨rfl, rfl⟩
      go_wp2_with fail
      refine (slices_sorted HM.out (by omega)).mono ?_
      rintro e w3 ⟨v3, rfl, hs3, hb3⟩
      obtain ⟨K, hK⟩ : ∃ K, lostB (m.map (·.1)) = K := ⟨_, rfl⟩
      have hKl : K.length ≤ 100 := by rw [← hK]; exact Nat.le_trans (lost_len _) (by rw [List.length_map]; exact hml)
      have hKm : ∀ r ∈ K, (Lit.int .i64 r).wf = true := fun r hr => HKOK.out r ((lost_mem _ _).1 (by rw [hK]; exact hr))
      rw [hK] at hs3 HEq
      have HM3 := Lib.hid (HM.out.kept hb3)
      have HB3 := Lib.hid (HBl.out.trans (hb3.mono (by omega)))
      have HKm := Lib.hid hKm
      obtain ⟨a3, c3, rfl, hf3⟩ := hs3.form2
      have HF3 := Lib.hid hf3
      obtain ⟨nK, hnK⟩ : ∃ n, K.length = n := ⟨_, rfl⟩
      rw [hnK] at hKl HF3 ⊢
      have HNK := Lib.hid hnK
      have hsz3 : w.heap.size ≤ w3.heap.size := HB3.out.size
      obtain ⟨R, hR⟩ : ∃ R, (K.map fun r => (getK m r).getD zeroH) = R := ⟨_, rfl⟩
      have HRk : Hid (∀ k r, K[k]? = some r → R.take (k + 1) = R.take k ++ [(getK m r).getD zeroH]) := by
        intro k r hr
        rw [List.take_add_one, ← hR, List.getElem?_map, hr]; rfl
      rw [hR] at HEq
      have hRl : R.length = nK := by rw [← hR, List.length_map, hnK]
      have HRl := Lib.hid hRl
      clear hR hRl hnK hf3 hs3 hKm hK hb3 HM HBl HKOK
      go_wp2_with fail
      go_loopw [12, 66] (fun v12 i wr => ∃ k : Nat, k ≤ nK ∧ i = .int .i64 k ∧ Hid (wr.ownsRow w3.heap.size 31 5 v12 k ((R.take k).flatMap He.cs) ∧ Below w3.heap.size w3 wr)) (fun _ i _ => nK - (intOf i).toNat)
      case atStart => exact ⟨0, Nat.zero_le _, rfl, World.ownsRow_nil _ _ _ _, Below.refl _ _⟩
      case round =>
        obtain ⟨k2, hk2, rfl, HR⟩ := hrel
        obtain ⟨wo2, rfl⟩ : ∃ wo : World, wo = wr := ⟨_, rfl⟩
        by_cases hlt2 : k2 < nK
        · obtain ⟨g3, rfl, hg3, hc3⟩ := HF3.out k2 hlt2
          obtain ⟨r, hr⟩ : ∃ r, K[k2]? = some r := ⟨_, List.getElem?_eq_getElem (by rw [HNK.out]; exact hlt2)⟩
          rw [hr] at hc3
          have hc3' : wo2.cell? ⟨g3, k2, none⟩ = some (.int .i64 r) := (HR.out.2.cell (p := ⟨g3, k2, none⟩) hg3).trans hc3
          have HKr := Lib.hid (key_i64 (HKm.out r (List.mem_of_getElem? hr)))
          have HT := Lib.hid (HRk.out k2 r hr)
          obtain ⟨h, hh⟩ : ∃ h, (getK m r).getD zeroH = h := ⟨_, rfl⟩
          rw [hh] at HT
          have HGET := Lib.hid hh
          have hsz2 : w3.heap.size ≤ wo2.heap.size := HR.out.2.size
          have hTl : (R.take k2).length = k2 := by rw [List.length_take, HRl.out]; omega
          have HTl := Lib.hid hTl
          clear hc3 hr hh hTl
          go_wp2_with first
            | (at_lookup; refine wpList_map_get (enc_int Try.underlying3) rfl _ _ 55 rfl Try.underlying55 zeroH (Try.zeroValue31 _) w1.heap.size m rfl (HM3.out.kept HR.out.2) r rfl HKr.out h HGET.out ?_)
            | refine wpList_slice1 rfl 27 31 _ rfl Try.underlying27 _ 5 40 Try.infoH (by omega) (by omega) He.cs He.len h rfl ?_
            | (at_builtin; refine wpList_append_S rfl _ _ 27 31 rfl Try.underlying27 _ 5 40 Try.infoH rfl (by omega) (by omega) He.cs He.len He.ones w3.heap.size _ k2 (R.take k2) rfl (HR.out.1.alloc _) HTl.out (by simp; omega) wo2.heap.size 1 h rfl (box_range wo2 h.cs 31) (by omega) ?_; intro v4 w4 ho4 hg4)
          go_roundw
          case rel =>
            refine ⟨k2 + 1, by omega, by go_num, ?_, belowS_grown (HR.out.2.alloc hsz2 _) (HR.out.1.alloc _) hg4 (by simp; omega) (Nat.le_refl _)⟩
            rw [HT.out]; exact ho4
          case measure => simp [intOf] <;> omega
        · have hnk2 : nK ≤ k2 := by omega
          have HF : Hid (IsS 5 He.cs wo2 u12 (assessL l fs) ∧ Below w.heap.size w wo2) := by
            unfold Hid
            have h1 := HR.out
            rw [List.take_of_length_le (by rw [HRl.out]; exact hnk2)] at h1
            rw [HEq.out]
            exact ⟨isS_of_owns He.len h1.1 (by rw [HRl.out]; omega), HB3.out.trans (h1.2.mono hsz3)⟩
          go_wp2
          go_ret
          exact ⟨_, rfl, HF.out⟩
end Go.Proofs.Ytafididfgljfcaa
