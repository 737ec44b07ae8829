/-
  The walk of the law ScrubMonotone.
-/
import Derived.Test.YtafididfgljfcaaRAss
import Derived.Test.YtafididfgljfcaaGreat
import Derived.Test.YtafididfgljfcaaLawsP
import Derived.Test.YtafididfgljfcaaOpC
import Derived.BigQuiet
import Derived.Test.YtafididfgljfcaaSafe
namespace Go.Proofs.Ytafididfgljfcaa
open Go.RowKit
set_option linter.unusedVariables false
theorem cap_of_roomy {a : Option Addr} {len cap : Nat} (h : Roomy (.slice a len cap)) : len ≤ cap := by
  obtain ⟨_, _, _, e, h⟩ := h
  cases e; exact h
/-- The two lists of conditions, one against the other. -/
structure MonoR (na : Nat) (la lb : List He) : Prop where
  lena : la.length = na
  lenb : lb.length = na
  each : ∀ (k : Nat) (x y : He), la[k]? = some x → lb[k]? = some y → x.reel = y.reel ∧ ¬ y.missing < x.missing ∧ x.found + x.missing = y.found + y.missing
  rise : ∀ (k : Nat) (x y : He), la[k]? = some x → la[k + 1]? = some y → ¬ y.reel ≤ x.reel
  oka : ∀ x : He, x ∈ la → HOk 100 x
  okb : ∀ x : He, x ∈ lb → HOk 100 x
theorem HOk.more {k n : Nat} {h : He} (hk : HOk k h) (hn : k ≤ n) : HOk n h := by
  obtain ⟨a1, a2, a3, a4, a5, a6, a7, a8⟩ := hk
  exact ⟨a1, by omega, a3, by omega, a5, a6, a7, by omega⟩
theorem assessL_ok (l : List Sg) (h : ∀ s ∈ l, 0 ≤ s.corr ∧ s.corr ≤ 52) (fs : List Fr) (n : Nat) (hn : fs.length ≤ n) : ∀ x ∈ assessL l fs, HOk n x := by
  intro x hx
  obtain ⟨r, _, rfl⟩ := List.mem_map.1 hx
  exact (assessM_ok (fok_counts h) (distL fs) r).more (Nat.le_trans (distL_len fs) hn)
theorem monoR (l l' : List Sg) (hs : ∀ s, s ∈ l' → s ∈ l) (h : ∀ s ∈ l, 0 ≤ s.corr ∧ s.corr ≤ 52) (fs : List Fr) (hn : fs.length ≤ 100) : ∃ na, na ≤ 100 ∧ MonoR na (assessL l fs) (assessL l' fs) := by
  have h' : ∀ s ∈ l', 0 ≤ s.corr ∧ s.corr ≤ 52 := fun s hs' => h s (hs s hs')
  have e1 := assessL_ref l (fun s hs => (h s hs).1) fs
  have e2 := assessL_ref l' (fun s hs => (h' s hs).1) fs
  obtain ⟨r1, r2, r3⟩ := reelsL_spec (distL fs)
  have r4 := distL_len fs
  refine ⟨(reelsL (distL fs)).length, by omega, by rw [e1, List.length_map], by rw [e2, List.length_map], fun k x y hx hy => ?_, fun k x y hx hy => ?_, assessL_ok l h fs 100 hn, assessL_ok l' h' fs 100 hn⟩
  · rw [e1, List.getElem?_map] at hx
    rw [e2, List.getElem?_map] at hy
    cases hr : (reelsL (distL fs))[k]? with
    | none => rw [hr] at hx; cases hx
    | some r =>
      rw [hr] at hx hy
      cases hx; cases hy
      obtain ⟨m1, m2, m3, m4⟩ := oneL_mono l l' hs (distL fs) r
      exact ⟨m1.trans m2.symm, by omega, m4⟩
  · rw [e1, List.getElem?_map] at hx hy
    cases hr : (reelsL (distL fs))[k]? with
    | none => rw [hr] at hx; cases hx
    | some r =>
      cases hr2 : (reelsL (distL fs))[k + 1]? with
      | none => rw [hr2] at hy; cases hy
      | some r' =>
        rw [hr] at hx
        rw [hr2] at hy
        cases hx; cases hy
        obtain ⟨m1, _⟩ := oneL_mono l l (fun s h => h) (distL fs) r
        obtain ⟨m2, _⟩ := oneL_mono l l (fun s h => h) (distL fs) r'
        rw [m1, m2]
        obtain ⟨hk, rfl⟩ := List.getElem?_eq_some_iff.1 hr
        obtain ⟨hk2, rfl⟩ := List.getElem?_eq_some_iff.1 hr2
        have := List.pairwise_iff_getElem.1 r1 k (k + 1) hk hk2 (by omega)
        omega
set_option maxRecDepth 100000 in
set_option maxHeartbeats 4000000 in
theorem scrubMonotone.walk (w : World) (v : Value) (l : List Sg) (hl : IsS 14 Sg.cs w v l) (hlk : ∀ s ∈ l, s.Ok) (hcap : Roomy v) (vf : Value) (fs : List Fr) (hf : IsS 9 Fr.cs w vf fs) (hfk : ∀ f ∈ fs, f.Ok) (q0 : Int) (wq : (Lit.int .u8 q0).wf = true) :
    Calls Try.prog 7 #[v, vf, .int .u8 q0] w fun e w' => e = .returned (.bool true) ∧ Below w.heap.size w w' := by
  have HF := Lib.hid hf
  have HL := Lib.hid hl
  have HFK := Lib.hid hfk
  have HLK := Lib.hid hlk
  obtain ⟨nl, hnl⟩ : ∃ n, l.length = n := ⟨_, rfl⟩
  have HNL := Lib.hid hnl
  obtain ⟨al, offl, cl, rfl, hlm, hrl⟩ := hl
  rw [hnl] at hlm HL hcap ⊢
  have hlc := cap_of_roomy hcap
  obtain ⟨af, offf, cf, rfl, hfm, hrf⟩ := hf
  obtain ⟨nf, hnf⟩ : ∃ n, fs.length = n := ⟨_, rfl⟩
  have HNF := Lib.hid hnf
  rw [hnf] at hfm HF ⊢
  have hq : 0 ≤ q0 ∧ q0 < 256 := by have := bounds_u8 wq; omega
  obtain ⟨q, rfl⟩ : ∃ q : Nat, q0 = (q : Int) := ⟨q0.toNat, by omega⟩
  obtain ⟨kq, hkq⟩ : ∃ k : Nat, (q : Int) % ((nl : Int) + 1) = (k : Int) := ⟨q % (nl + 1), by simp⟩
  have hkl : kq ≤ nl := by
    have := Int.emod_lt_of_pos (q : Int) (by omega : (0 : Int) < (nl : Int) + 1)
    omega
  clear hrl hrf hlk hfk hnl hnf hcap wq
  go_enter Try.func7, Try.ntmps7
  go_wp2_with fail
  refine (great_any l nl nf _ af cf w HNL.out hfm HL.out).mono ?_
  rintro e w1 ⟨rfl, h1 | ⟨h1, hsm⟩⟩
  · subst h1
    go_wp2_with fail
    refine (awake_any _).mono ?_
    rintro e w7 ⟨rfl, hb7⟩
    have HB7 := Lib.hid hb7
    clear hb7
    go_wp2_with fail
    go_ret
    exact ⟨rfl, HB7.out⟩
  · subst h1
    obtain ⟨s1, s2, s3⟩ := hsm
    have HC := Lib.hid s3
    have HOK : Hid (∀ s ∈ l, s.frame.Ok ∧ 0 ≤ s.corr ∧ s.corr ≤ 52) := fun s hs => ⟨(HLK.out s hs).frame, HC.out s hs⟩
    have hkc : kq ≤ cl := by omega
    have HL' := Lib.hid (HL.out.front kq (by rw [HNL.out]; exact hkl))
    have hsub : ∀ s, s ∈ l.take kq → s ∈ l := fun s hs => List.mem_of_mem_take hs
    have HSUB := Lib.hid hsub
    obtain ⟨l', hl'⟩ : ∃ l', l.take kq = l' := ⟨_, rfl⟩
    have hnl' : l'.length = kq := by rw [← hl', List.length_take, HNL.out]; omega
    have HNL' := Lib.hid hnl'
    rw [hl'] at HL' HSUB
    have HMONO := Lib.hid (monoR l l' HSUB.out (fun s hs => HC.out s hs) fs (by rw [HNF.out]; omega))
    have HOK' : Hid (∀ s ∈ l', s.frame.Ok ∧ 0 ≤ s.corr ∧ s.corr ≤ 52) := fun s hs => HOK.out s (HSUB.out s hs)
    have e1 : IntKind.i64.wrap ((q : Int) % ((nl : Int) + 1)) = kq := by rw [hkq]; exact IntWalk.i64_in _ (by omega)
    clear s3 hsub hl' hnl'
    go_wp2_with first
      | refine wpList_front rfl 22 43 _ _ rfl Try.underlying22 _ rfl al nl cl kq rfl rfl hkc ?_
    refine (assess_any l fs nl nf _ _ w HNL.out (by omega) HNF.out (by omega) HL.out HF.out HOK.out HFK.out).mono ?_
    rintro e w2 ⟨va, rfl, hsa, hb2⟩
    have HL2 := Lib.hid (HL.out.kept hb2)
    have HL2' := Lib.hid (HL'.out.kept hb2)
    have HF2 := Lib.hid (HF.out.kept hb2)
    have HB2 := Lib.hid hb2
    have HSA := Lib.hid hsa
    clear hsa hb2
    go_wp2_with fail
    refine (assess_any l' fs kq nf _ _ w2 HNL'.out (by omega) HNF.out (by omega) HL2'.out HF2.out HOK'.out HFK.out).mono ?_
    rintro e w3 ⟨vb, rfl, hsb, hb3⟩
    have hsa3 := HSA.out.kept hb3
    have HL3 := Lib.hid (HL2.out.kept hb3)
    have HL3' := Lib.hid (HL2'.out.kept hb3)
    have HF3 := Lib.hid (HF2.out.kept hb3)
    have HB3 := Lib.hid (bt HB2.out hb3)
    obtain ⟨na, hna, hmono⟩ := HMONO.out
    obtain ⟨la, hla⟩ : ∃ la, assessL l fs = la := ⟨_, rfl⟩
    obtain ⟨lb, hlb⟩ : ∃ lb, assessL l' fs = lb := ⟨_, rfl⟩
    rw [hla] at hmono hsa3
    rw [hlb] at hmono hsb
    have HM := Lib.hid hmono
    obtain ⟨aA, oA, cA, rfl, _, hrA⟩ := hsa3
    obtain ⟨aB, oB, cB, rfl, _, hrB⟩ := hsb
    have HRA : Hid (RowsAt 5 He.cs w3 aA oA la) := hrA
    have HRB : Hid (RowsAt 5 He.cs w3 aB oB lb) := hrB
    rw [HM.out.lena, HM.out.lenb]
    clear hmono hrA hrB hla hlb hb3 HMONO HSA HL2 HL2' HF2 HB2
    go_wp2_with fail
    go_loopw [37] (fun i wr => ∃ k : Nat, k ≤ na ∧ i = .int .i64 k ∧ Hid (Below w3.heap.size w3 wr)) (fun i _ => na - (intOf i).toNat)
    case atStart => exact ⟨0, Nat.zero_le _, rfl, Below.refl _ _⟩
    case round =>
      obtain ⟨k, hk, rfl, HI⟩ := hrel
      obtain ⟨wo, rfl⟩ : ∃ wo : World, wo = wr := ⟨_, rfl⟩
      by_cases hlt : k < na
      · obtain ⟨x, hx⟩ : ∃ x, la[k]? = some x := ⟨_, List.getElem?_eq_getElem (by rw [HM.out.lena]; exact hlt)⟩
        obtain ⟨y, hy⟩ : ∃ y, lb[k]? = some y := ⟨_, List.getElem?_eq_getElem (by rw [HM.out.lenb]; exact hlt)⟩
        obtain ⟨e1, e2, e3⟩ := HM.out.each k x y hx hy
        have okx := HM.out.oka x (List.mem_of_getElem? hx)
        have oky := HM.out.okb y (List.mem_of_getElem? hy)
        obtain ⟨bA, rfl, hbA, hrA⟩ := HRA.out k x hx
        obtain ⟨bB, rfl, hbB, hrB⟩ := HRB.out k y hy
        have hrA := rangeAt_kept hrA HI.out hbA
        have hrB := rangeAt_kept hrB HI.out hbB
        have ha0 : wo.cell? ⟨bA, oA + k * 5, none⟩ = some (.int .i64 x.reel) := hrA 0 _ rfl
        have ha1 : wo.cell? ⟨bA, oA + k * 5 + 1, none⟩ = some (.int .i64 x.found) := hrA 1 _ rfl
        have ha2 : wo.cell? ⟨bA, oA + k * 5 + 2, none⟩ = some (.int .i64 x.missing) := hrA 2 _ rfl
        have hb0 : wo.cell? ⟨bB, oB + k * 5, none⟩ = some (.int .i64 x.reel) := by rw [e1]; exact hrB 0 _ rfl
        have hb1 : wo.cell? ⟨bB, oB + k * 5 + 1, none⟩ = some (.int .i64 y.found) := hrB 1 _ rfl
        have hb2 : wo.cell? ⟨bB, oB + k * 5 + 2, none⟩ = some (.int .i64 y.missing) := hrB 2 _ rfl
        obtain ⟨t, ht⟩ : ∃ t, x.found + x.missing = t := ⟨_, rfl⟩
        have hw1 : IntKind.i64.wrap (x.found + x.missing) = t := by rw [ht]; have := okx.f0; have := okx.f1; have := okx.m0; have := okx.m1; exact IntWalk.i64_in _ (by omega)
        have hw2 : IntKind.i64.wrap (y.found + y.missing) = t := by rw [← e3, ht]; have := okx.f0; have := okx.f1; have := okx.m0; have := okx.m1; exact IntWalk.i64_in _ (by omega)
        have hdm : decide (y.missing < x.missing) = false := decide_eq_false e2
        have HX := Lib.hid hx
        clear hrA hrB okx oky e1 e3 ht hx hy
        by_cases hk0 : k = 0
        · subst hk0
          simp only [Nat.zero_mul, Nat.add_zero] at ha0 ha1 ha2 hb0 hb1 hb2
          go_wp2_with fail
          go_quiet (fail)
          go_wp2_with fail
          go_roundw
          case rel => exact ⟨1, by omega, by go_num, bdN HI.out _⟩
          case measure => simp [intOf] <;> omega
        · obtain ⟨j, hj⟩ : ∃ j, j + 1 = k := ⟨k - 1, by omega⟩
          obtain ⟨z, hz⟩ : ∃ z, la[j]? = some z := ⟨_, List.getElem?_eq_getElem (by rw [HM.out.lena]; omega)⟩
          have hrise : ¬ x.reel ≤ z.reel := HM.out.rise j z x hz (by rw [hj]; exact HX.out)
          obtain ⟨bZ, hbZe, hbZ, hrZ⟩ := HRA.out j z hz
          obtain rfl : bA = bZ := by have := Option.some.inj hbZe; exact congrArg Addr.block this
          have hz0 : wo.cell? ⟨bA, oA + j * 5, none⟩ = some (.int .i64 z.reel) := rangeAt_kept hrZ HI.out hbZ 0 _ rfl
          have hwj : IntKind.i64.wrap ((k : Int) - 1) = j := by rw [show (k : Int) - 1 = j by omega]; exact IntWalk.i64_in _ (by omega)
          have hkp : 0 < k := by omega
          have hdr : decide (x.reel ≤ z.reel) = false := decide_eq_false hrise
          have hdk : decide (0 < k) = true := decide_eq_true hkp
          have hdk2 : decide ((0 : Int) < (k : Int)) = true := decide_eq_true (by omega)
          clear hrZ hbZe hz
          go_wp2_with fail
          go_quiet (fail)
          go_wp2_with fail
          go_roundw
          case rel => exact ⟨k + 1, by omega, by go_num, bdN HI.out _⟩
          case measure => simp [intOf] <;> omega
      · have hnk : na ≤ k := by omega
        have HLo := Lib.hid (HL3.out.kept HI.out)
        have HLo' := Lib.hid (HL3'.out.kept HI.out)
        have HFo := Lib.hid (HF3.out.kept HI.out)
        have HBo := Lib.hid (bt HB3.out HI.out)
        clear HI
        go_wp2_with fail
        refine (safe_any l fs nl nf _ _ wo HNL.out (by omega) HNF.out (by omega) HLo.out HFo.out (fun s hs => (HOK.out s hs).1) HFK.out).mono ?_
        rintro e w4 ⟨rfl, hb4⟩
        have HB4 := Lib.hid (bt HBo.out hb4)
        have HL4' := Lib.hid (HLo'.out.kept hb4)
        have HF4 := Lib.hid (HFo.out.kept hb4)
        have hsm := safeL_mono l l' HSUB.out fs
        clear hb4
        cases hsafe : safeL l fs with
        | true =>
          clear hsm
          go_wp2_with fail
          refine (awake_any _).mono ?_
          rintro e w7 ⟨rfl, hb7⟩
          have HB7 := Lib.hid (bt HB4.out hb7)
          clear hb7
          go_wp2_with fail
          go_ret
          exact ⟨rfl, HB7.out⟩
        | false =>
          have hs' : safeL l' fs = false := by
            cases h : safeL l' fs with
            | false => rfl
            | true => rw [hsm h] at hsafe; cases hsafe
          clear hsm
          go_wp2_with fail
          refine (safe_any l' fs kq nf _ _ w4 HNL'.out (by omega) HNF.out (by omega) HL4'.out HF4.out (fun s hs => (HOK'.out s hs).1) HFK.out).mono ?_
          rintro e w5 ⟨rfl, hb5⟩
          rw [hs']
          have HB5 := Lib.hid (bt HB4.out hb5)
          clear hb5
          go_wp2_with fail
          refine (awake_any _).mono ?_
          rintro e w7 ⟨rfl, hb7⟩
          have HB7 := Lib.hid (bt HB5.out hb7)
          clear hb7
          go_wp2_with fail
          go_ret
          exact ⟨rfl, HB7.out⟩
end Go.Proofs.Ytafididfgljfcaa
