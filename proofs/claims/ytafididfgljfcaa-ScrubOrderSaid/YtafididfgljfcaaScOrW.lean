/-
  The walk of the law ScrubOrder.
-/
import Derived.Test.YtafididfgljfcaaRAss
import Derived.Test.YtafididfgljfcaaGreat
import Derived.Test.YtafididfgljfcaaSame
import Derived.Test.YtafididfgljfcaaLawsP
import Derived.Test.YtafididfgljfcaaApS
import Derived.Test.YtafididfgljfcaaSafe
import Derived.Test.YtafididfgljfcaaOpC
namespace Go.Proofs.Ytafididfgljfcaa
open Go.RowKit
set_option linter.unusedVariables false
/-- What the law's loop collects. -/
def mixL (l : List Sg) (q k : Nat) : List Sg := (List.range k).flatMap fun i => (l[(i + q) % l.length]?).toList ++ (l[l.length - 1 - i]?).toList
theorem mixL_snoc (l : List Sg) (q k : Nat) (s1 s2 : Sg) (h1 : l[(k + q) % l.length]? = some s1) (h2 : l[l.length - 1 - k]? = some s2) : mixL l q (k + 1) = mixL l q k ++ [s1, s2] := by
  unfold mixL
  rw [List.range_succ, List.flatMap_append]
  simp [h1, h2]
theorem mixL_len (l : List Sg) (q k : Nat) (h : k ≤ l.length) : (mixL l q k).length = 2 * k := by
  induction k with
  | zero => rfl
  | succ k ih =>
    have hp : 0 < l.length := by omega
    have hm := Nat.mod_lt (k + q) hp
    rw [mixL_snoc l q k _ _ (List.getElem?_eq_getElem hm) (List.getElem?_eq_getElem (by omega)), List.length_append, ih (by omega)]
    simp; omega
theorem mixL_mem (l : List Sg) (q : Nat) (s : Sg) : s ∈ l ↔ s ∈ mixL l q l.length := by
  unfold mixL
  rw [List.mem_flatMap]
  constructor
  · intro h
    obtain ⟨j, hj, rfl⟩ := List.mem_iff_getElem.1 h
    refine ⟨l.length - 1 - j, List.mem_range.2 (by omega), List.mem_append_right _ ?_⟩
    have e : l.length - 1 - (l.length - 1 - j) = j := by omega
    rw [e, List.getElem?_eq_getElem hj]; simp
  · rintro ⟨i, _, h⟩
    rcases List.mem_append.1 h with h | h
    · rw [Option.mem_toList] at h; exact List.mem_of_getElem? h
    · rw [Option.mem_toList] at h; exact List.mem_of_getElem? h
theorem mix2 (w : World) (s1 s2 : Sg) : RowsAt 14 Sg.cs (w.alloc (.cells ([s1, s2].flatMap Sg.cs).toArray 43)) (some ⟨w.heap.size, 0, none⟩) 0 [s1, s2] := by
  intro i x hx
  refine ⟨w.heap.size, rfl, by simp, fun j v hv => ?_⟩
  have hj : j < 14 := (List.getElem?_eq_some_iff.1 hv).1
  have := box_cell w ([s1, s2].flatMap Sg.cs) 43 (i * 14 + j) v (by rw [flat_get Sg.cs 14 Sg.len [s1, s2] i j x hx hj]; exact hv)
  rw [Nat.zero_add]; exact this
set_option maxRecDepth 100000 in
set_option maxHeartbeats 4000000 in
theorem scrubOrder.walk (w : World) (v : Value) (l : List Sg) (hl : IsS 14 Sg.cs w v l) (hlk : ∀ s ∈ l, s.Ok) (vf : Value) (fs : List Fr) (hf : IsS 9 Fr.cs w vf fs) (hfk : ∀ f ∈ fs, f.Ok) (q0 : Int) (wq : (Lit.int .u8 q0).wf = true) :
    Calls Try.prog 8 #[v, vf, .int .u8 q0] w fun e w' => e = .returned (.bool true) ∧ Below w.heap.size w w' := by
  have HF := Lib.hid hf
  have HL := Lib.hid hl
  have HFK := Lib.hid hfk
  have HLK := Lib.hid hlk
  obtain ⟨nl, hnl⟩ : ∃ n, l.length = n := ⟨_, rfl⟩
  have HNL := Lib.hid hnl
  obtain ⟨al, offl, cl, rfl, hlm, hrl⟩ := hl
  have HRL : Hid (RowsAt 14 Sg.cs w al offl l) := hrl
  rw [hnl] at hlm HL ⊢
  obtain ⟨af, offf, cf, rfl, hfm, hrf⟩ := hf
  have HRF : Hid (RowsAt 9 Fr.cs w af offf fs) := hrf
  obtain ⟨nf, hnf⟩ : ∃ n, fs.length = n := ⟨_, rfl⟩
  have HNF := Lib.hid hnf
  rw [hnf] at hfm HF ⊢
  have hq : 0 ≤ q0 ∧ q0 < 256 := by have := bounds_u8 wq; omega
  obtain ⟨q, rfl⟩ : ∃ q : Nat, q0 = (q : Int) := ⟨q0.toNat, by omega⟩
  clear hrl hrf hlk hfk hnl hnf wq
  go_enter Try.func8, Try.ntmps8
  go_wp2_with fail
  refine (great_any l nl nf _ af cf w HNL.out hfm HL.out).mono ?_
  rintro e w1 ⟨rfl, h1 | ⟨h1, hsm⟩⟩
  · subst h1
    go_wp2_with fail
    refine (awake_any _).mono ?_
    rintro e w7 ⟨rfl, hb7⟩
    have HB7 := Lib.hid hb7
    clear hb7
    go_wp2_with fail
    go_ret
    exact ⟨rfl, HB7.out⟩
  · subst h1
    obtain ⟨s1, s2, s3⟩ := hsm
    have HC := Lib.hid s3
    have HOK : Hid (∀ s ∈ l, s.frame.Ok ∧ 0 ≤ s.corr ∧ s.corr ≤ 52) := fun s hs => ⟨(HLK.out s hs).frame, HC.out s hs⟩
    clear s3
    go_wp2_with fail
    go_loopw [7, 18] (fun v7 i wr => ∃ k : Nat, k ≤ nl ∧ i = .int .i64 k ∧ Hid (wr.ownsRow w.heap.size 43 14 v7 (2 * k) ((mixL l q k).flatMap Sg.cs) ∧ Below w.heap.size w wr)) (fun _ i _ => nl - (intOf i).toNat)
    case atStart => exact ⟨0, Nat.zero_le _, rfl, owns_empty _ _ _, (Below.refl _ _).alloc (Nat.le_refl _) _⟩
    case round =>
      obtain ⟨k, hk, rfl, HR⟩ := hrel
      obtain ⟨wo, rfl⟩ : ∃ wo : World, wo = wr := ⟨_, rfl⟩
      by_cases hlt : k < nl
      · obtain ⟨i1, hi1⟩ : ∃ i1, (k + q) % nl = i1 := ⟨_, rfl⟩
        obtain ⟨i2, hi2⟩ : ∃ i2, nl - 1 - k = i2 := ⟨_, rfl⟩
        have hi1l : i1 < nl := by rw [← hi1]; exact Nat.mod_lt _ (by omega)
        have hi2l : i2 < nl := by omega
        obtain ⟨x1, hx1⟩ : ∃ x, l[i1]? = some x := ⟨_, List.getElem?_eq_getElem (by rw [HNL.out]; exact hi1l)⟩
        obtain ⟨x2, hx2⟩ : ∃ x, l[i2]? = some x := ⟨_, List.getElem?_eq_getElem (by rw [HNL.out]; exact hi2l)⟩
        have HS := Lib.hid (mixL_snoc l q k x1 x2 (by rw [HNL.out, hi1]; exact hx1) (by rw [HNL.out, hi2]; exact hx2))
        have hML := mixL_len l q k (by rw [HNL.out]; omega)
        obtain ⟨bA, rfl, hbA, hr1⟩ := HRL.out i1 x1 hx1
        obtain ⟨bB, hbe, _, hr2⟩ := HRL.out i2 x2 hx2
        obtain rfl : bA = bB := congrArg Addr.block (Option.some.inj hbe)
        have HR1 := Lib.hid hr1
        have HR2 := Lib.hid hr2
        have ew0 : IntKind.i64.wrap (q : Int) = q := IntWalk.i64_in _ (by omega)
        obtain ⟨kq, hkq⟩ : ∃ kq, k + q = kq := ⟨_, rfl⟩
        have ew1 : IntKind.i64.wrap ((k : Int) + (q : Int)) = kq := by rw [← hkq]; exact IntWalk.i64_in _ (by omega)
        have e1 : ((kq : Int)).tmod (nl : Int) = i1 := by rw [← hi1, hkq]; exact (Int.ofNat_tmod kq nl).symm
        have ew2 : IntKind.i64.wrap (i1 : Int) = i1 := IntWalk.i64_in _ (by omega)
        obtain ⟨m1, hm1⟩ : ∃ m1, nl - 1 = m1 := ⟨_, rfl⟩
        have ew3 : IntKind.i64.wrap ((nl : Int) - 1) = m1 := by rw [show (nl : Int) - 1 = m1 by omega]; exact IntWalk.i64_in _ (by omega)
        have ew4 : IntKind.i64.wrap ((m1 : Int) - (k : Int)) = i2 := by rw [show (m1 : Int) - (k : Int) = i2 by omega]; exact IntWalk.i64_in _ (by omega)
        have hn0 : ¬ nl = 0 := by omega
        have hlow : w.heap.size ≤ wo.heap.size := HR.out.2.size
        clear hr1 hr2 hbe hx1 hx2
        go_wp2_with fail
        refine wp_region_lexh 19 (S := fun w' : World => Below w.heap.size w w') (by kernel_rfl) (by decide) (by kernel_rfl) (by kernel_rfl) ((HR.out.2).drew) ?_
        simp only [List.take_succ_cons, List.take_zero, List.drop_succ_cons, List.drop_zero]
        repeat
          (apply WT.step
           next => rfl
           next =>
             intro w' hw'
             first
               | exact exec_load_mid 43 _ rfl bA _ x1.cs _ rfl (rangeAt_kept HR1.out hw' hbA) Try.underlying43 rfl Try.size43
               | exact exec_load_mid 43 _ rfl bA _ x2.cs _ rfl (rangeAt_kept HR2.out hw' hbA) Try.underlying43 rfl Try.size43
               | (go_simp; done)
               | (go_simp; exact rfl)
           try simp only [Act.put, List.setIfInBounds_toArray, List.set_cons_zero, List.set_cons_succ])
        refine WT.nil ?_
        have HRd : Hid (wo.drew.ownsRow w.heap.size 43 14 u7 (2 * k) ((mixL l q k).flatMap Sg.cs) ∧ Below w.heap.size w wo.drew ∧ w.heap.size ≤ wo.drew.heap.size) := ⟨ownsS_below HR.out.1 ((Below.refl _ _).drew), HR.out.2.drew, hlow⟩
        obtain ⟨wd, hwd⟩ : ∃ wd, wo.drew = wd := ⟨_, rfl⟩
        rw [hwd] at HRd
        rw [hwd]
        have hld := HRd.out.2.2
        refine WH.step _ _ rfl (exec_sliceS 22 43 2 _ rfl Try.underlying22 _ 14 120 Try.infoS (by omega) (by omega) Sg.cs Sg.len [x1, x2] rfl (by omega) (by omega) rfl) (HRd.out.2.1.alloc hld _) ?_
        try simp only [Act.put, List.setIfInBounds_toArray, List.set_cons_zero, List.set_cons_succ]
        obtain ⟨v4, w4, hrun, ho4, hg4, _⟩ := run_append_L (P := Try.prog) (wd.alloc (.cells ([x1, x2].flatMap Sg.cs).toArray 43)) 22 22 43 Try.underlying22 _ 14 120 Try.infoS rfl (by omega) (by omega) Sg.cs Sg.len Sg.ones w.heap.size u7 (2 * k) (mixL l q k) (HRd.out.1.alloc _) (by simp; omega) (some ⟨wd.heap.size, 0, none⟩) 0 2 2 [x1, x2] rfl (mix2 wd x1 x2) (by omega)
        have hb4 : Below w.heap.size w w4 := belowS_grown (HRd.out.2.1.alloc hld _) (HRd.out.1.alloc _) hg4 (by simp; omega) (Nat.le_refl _)
        refine WH.step _ _ rfl (exec_append _ _ 22 rfl rfl rfl hrun) hb4 ?_
        try simp only [Act.put, List.setIfInBounds_toArray, List.set_cons_zero, List.set_cons_succ]
        refine WH.step v4 w4 rfl rfl hb4 ?_
        try simp only [Act.put, List.setIfInBounds_toArray, List.set_cons_zero, List.set_cons_succ]
        refine WH.last ?_
        have HO4 : Hid (w4.ownsRow w.heap.size 43 14 v4 (2 * (k + 1)) ((mixL l q (k + 1)).flatMap Sg.cs) ∧ Below w.heap.size w w4) := ⟨by rw [HS.out, show 2 * (k + 1) = 2 * k + 2 by omega]; exact ho4, hb4⟩
        clear ho4 hb4 hg4 hrun HRd hwd
        go_wp2_with fail
        go_roundw
        case rel => exact ⟨k + 1, by omega, by go_num, HO4.out⟩
        case measure => simp [intOf] <;> omega
      · have hnk : nl ≤ k := by omega
        have hkn : k = nl := by omega
        subst hkn
        obtain ⟨mx, hmx⟩ : ∃ mx, mixL l q k = mx := ⟨_, rfl⟩
        have hmm := mixL_mem l q
        have hml := mixL_len l q k (by rw [HNL.out]; omega)
        rw [HNL.out, hmx] at hmm
        rw [hmx] at hml
        have HMM := Lib.hid hmm
        have HML := Lib.hid hml
        have HR' := HR.out
        rw [hmx] at HR'
        have HMS : Hid (IsS 14 Sg.cs wo u7 mx) := isS_of_owns Sg.len HR'.1 (by rw [hml])
        have HBo := Lib.hid HR'.2
        have hlow : w.heap.size ≤ wo.heap.size := HR'.2.size
        have HOKM : Hid (∀ s ∈ mx, s.frame.Ok ∧ 0 ≤ s.corr ∧ s.corr ≤ 52) := fun s hs => HOK.out s ((hmm s).2 hs)
        clear HR' HR hmm hml hmx
        go_wp2_with first
          | (at_builtin; refine wpList_append_L rfl _ _ 23 39 rfl Try.underlying23 _ 9 80 Try.infoF rfl (by omega) (by omega) Fr.cs Fr.len Fr.ones wo.heap.size _ 0 [] rfl (owns_empty wo 39 9) (by simp) af offf nf cf fs rfl HNF.out ((HRF.out.kept HBo.out).alloc _) (by omega) ?_; intro v4 w4 ho4 hg4 _; have HB4 : Hid (Below w.heap.size w w4) := belowS_grown (HBo.out.alloc hlow _) (owns_empty wo 39 9) hg4 (by simp; omega) hlow; have HBb : Hid (Below wo.heap.size wo w4) := belowS_grown ((Below.refl _ _).alloc (Nat.le_refl _) _) (owns_empty wo 39 9) hg4 (by simp) (Nat.le_refl _); have HO4 := Lib.hid ho4; have hs4 : wo.heap.size ≤ w4.heap.size := Nat.le_trans (by simp) hg4.size; clear ho4 hg4)
          | (at_builtin; refine wpList_append_L rfl _ _ 23 39 rfl Try.underlying23 _ 9 80 Try.infoF rfl (by omega) (by omega) Fr.cs Fr.len Fr.ones wo.heap.size v4 (0 + nf) ([] ++ fs) rfl HO4.out hs4 af offf nf cf fs rfl HNF.out (HRF.out.kept HB4.out) (by omega) ?_; intro v5 w5 ho5 hg5 _; have HB5 : Hid (Below w.heap.size w w5) := belowS_grown HB4.out HO4.out hg5 (Nat.le_trans hlow hs4) hlow; have HBa : Hid (Below wo.heap.size wo w5) := belowS_grown HBb.out HO4.out hg5 hs4 (Nat.le_refl _); have HFF : Hid (IsS 9 Fr.cs w5 v5 (fs ++ fs)) := isS_of_owns Fr.len (by rw [List.nil_append] at ho5; exact ho5) (by rw [List.length_append, HNF.out, Nat.zero_add]); clear ho5 hg5)
        have HFFK : Hid (∀ f ∈ fs ++ fs, f.Ok) := fun f hf => by
          rcases List.mem_append.1 hf with h | h
          · exact HFK.out f h
          · exact HFK.out f h
        have HNFF : Hid ((fs ++ fs).length = nf + nf) := by unfold Hid; rw [List.length_append, HNF.out]
        have HM5 := Lib.hid (HMS.out.kept HBa.out)
        have HL5 := Lib.hid (HL.out.kept HB5.out)
        have HF5 := Lib.hid (HF.out.kept HB5.out)
        clear HMS HBo hlow HO4 HB4 hs4 HBa
        have HAO := Lib.hid (assessL_order l mx (fun s hs => (HC.out s hs).1) HMM.out fs)
        have HSO := Lib.hid (safeL_order l mx HMM.out fs)
        refine (assess_any l fs _ nf _ _ w5 HNL.out (by omega) HNF.out (by omega) HL5.out HF5.out HOK.out HFK.out).mono ?_
        rintro e w6 ⟨v6, rfl, hs6, hb6⟩
        have HS6 := Lib.hid hs6
        have HM6 := Lib.hid (HM5.out.kept hb6)
        have HFF6 := Lib.hid (HFF.out.kept hb6)
        have HL6 := Lib.hid (HL5.out.kept hb6)
        have HF6 := Lib.hid (HF5.out.kept hb6)
        have HB6 := Lib.hid (bt HB5.out hb6)
        clear hs6 hb6 HM5 HFF HL5 HF5 HB5
        go_wp2_with fail
        refine (assess_any mx (fs ++ fs) _ (nf + nf) _ _ w6 HML.out (by omega) HNFF.out (by omega) HM6.out HFF6.out HOKM.out HFFK.out).mono ?_
        rintro e w7 ⟨v7, rfl, hs7, hb7⟩
        rw [← HAO.out] at hs7
        have HS67 := Lib.hid (HS6.out.kept hb7)
        have HS7 := Lib.hid hs7
        have HM7 := Lib.hid (HM6.out.kept hb7)
        have HFF7 := Lib.hid (HFF6.out.kept hb7)
        have HL7 := Lib.hid (HL6.out.kept hb7)
        have HF7 := Lib.hid (HF6.out.kept hb7)
        have HB7 := Lib.hid (bt HB6.out hb7)
        clear hs7 hb7 HM6 HFF6 HL6 HF6 HB6 HS6
        go_wp2_with fail
        refine (same_any _ _ v6 v7 w7 rfl HS67.out HS7.out).mono ?_
        rintro e w8 ⟨rfl, hb8⟩
        have HM8 := Lib.hid (HM7.out.kept hb8)
        have HFF8 := Lib.hid (HFF7.out.kept hb8)
        have HL8 := Lib.hid (HL7.out.kept hb8)
        have HF8 := Lib.hid (HF7.out.kept hb8)
        have HB8 := Lib.hid (bt HB7.out hb8)
        clear hb8 HM7 HFF7 HL7 HF7 HB7 HS67 HS7
        go_wp2_with fail
        refine (safe_any l fs _ nf _ _ w8 HNL.out (by omega) HNF.out (by omega) HL8.out HF8.out (fun s hs => (HOK.out s hs).1) HFK.out).mono ?_
        rintro e w9 ⟨rfl, hb9⟩
        have HM9 := Lib.hid (HM8.out.kept hb9)
        have HFF9 := Lib.hid (HFF8.out.kept hb9)
        have HB9 := Lib.hid (bt HB8.out hb9)
        rw [HSO.out]
        obtain ⟨sb, hsb⟩ : ∃ b, safeL mx (fs ++ fs) = b := ⟨_, rfl⟩
        rw [hsb]
        clear hb9 HM8 HFF8 HL8 HF8 HB8
        go_wp2_with fail
        refine (safe_any mx (fs ++ fs) _ (nf + nf) _ _ w9 HML.out (by omega) HNFF.out (by omega) HM9.out HFF9.out (fun s hs => (HOKM.out s hs).1) HFFK.out).mono ?_
        rintro e w10 ⟨rfl, hb10⟩
        have HB10 := Lib.hid (bt HB9.out hb10)
        rw [hsb]
        clear hb10 HB9 HM9 HFF9
        have hbb : (sb == sb) = true := by cases sb <;> rfl
        go_wp2_with fail
        refine (awake_any _).mono ?_
        rintro e w11 ⟨rfl, hb11⟩
        have HB11 := Lib.hid (bt HB10.out hb11)
        clear hb11
        go_wp2_with fail
        go_ret
        exact ⟨rfl, HB11.out⟩
end Go.Proofs.Ytafididfgljfcaa
