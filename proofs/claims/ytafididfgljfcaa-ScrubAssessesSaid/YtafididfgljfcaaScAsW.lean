/-
  The walk of the law ScrubAssesses.
-/
import Derived.Test.YtafididfgljfcaaRAss
import Derived.Test.YtafididfgljfcaaGreat
import Derived.Test.YtafididfgljfcaaSame
namespace Go.Proofs.Ytafididfgljfcaa
open Go.RowKit
set_option linter.unusedVariables false
set_option maxRecDepth 100000 in
set_option maxHeartbeats 2000000 in
theorem scrubAssesses.walk (w : World) (v : Value) (l : List Sg) (hl : IsS 14 Sg.cs w v l) (hlk : ∀ s ∈ l, s.Ok) (vf : Value) (fs : List Fr) (hf : IsS 9 Fr.cs w vf fs) (hfk : ∀ f ∈ fs, f.Ok) :
    Calls Try.prog 3 #[v, vf] w fun e w' => e = .returned (.bool true) ∧ Below w.heap.size w w' := by
  have HF := Lib.hid hf
  have HL := Lib.hid hl
  have HFK := Lib.hid hfk
  have HLK := Lib.hid hlk
  obtain ⟨nl, hnl⟩ : ∃ n, l.length = n := ⟨_, rfl⟩
  have HNL := Lib.hid hnl
  obtain ⟨af, offf, cf, rfl, hfm, hrf⟩ := hf
  obtain ⟨nf, hnf⟩ : ∃ n, fs.length = n := ⟨_, rfl⟩
  have HNF := Lib.hid hnf
  rw [hnf] at hfm HF ⊢
  clear hrf hl hfk hlk hnl hnf
  go_enter Try.func3, Try.ntmps3
  go_wp2_with fail
  refine (great_any l nl nf v af cf w HNL.out hfm HL.out).mono ?_
  rintro e w1 ⟨rfl, h1 | ⟨h1, hsm⟩⟩
  · subst h1
    go_wp2_with fail
    refine (awake_any _).mono ?_
    rintro e w7 ⟨rfl, hb7⟩
    have HB7 := Lib.hid hb7
    clear hb7
    go_wp2_with fail
    go_ret
    exact ⟨rfl, HB7.out⟩
  · subst h1
    obtain ⟨s1, s2, s3⟩ := hsm
    have HC := Lib.hid s3
    have HOK : Hid (∀ s ∈ l, s.frame.Ok ∧ 0 ≤ s.corr ∧ s.corr ≤ 52) := fun s hs => ⟨(HLK.out s hs).frame, HC.out s hs⟩
    clear s3
    go_wp2_with fail
    refine (assess_any l fs nl nf v _ w HNL.out (by omega) HNF.out (by omega) HL.out HF.out HOK.out HFK.out).mono ?_
    rintro e w2 ⟨v2, rfl, hs2, hb2⟩
    rw [assessL_ref l (fun s hs => (HC.out s hs).1) fs] at hs2
    have HL2 := Lib.hid (HL.out.kept hb2)
    have HF2 := Lib.hid (HF.out.kept hb2)
    have HB2 := Lib.hid hb2
    have HS2 := Lib.hid hs2
    clear hs2 hb2
    go_wp2_with fail
    refine (rassess_any l fs nl nf v _ w2 HNL.out (by omega) HNF.out (by omega) HL2.out HF2.out HC.out).mono ?_
    rintro e w3 ⟨v3, rfl, hs3, hb3⟩
    have HS23 := Lib.hid (HS2.out.kept hb3)
    have HS3 := Lib.hid hs3
    have HB3 := Lib.hid (bt HB2.out hb3)
    clear hs3 hb3
    go_wp2_with fail
    refine (same_any _ _ v2 v3 w3 rfl HS23.out HS3.out).mono ?_
    rintro e w4 ⟨rfl, hb4⟩
    have HB4 := Lib.hid (bt HB3.out hb4)
    clear hb4
    go_wp2_with fail
    refine (awake_any _).mono ?_
    rintro e w7 ⟨rfl, hb7⟩
    have HB7 := Lib.hid (bt HB4.out hb7)
    clear hb7
    go_wp2_with fail
    go_ret
    exact ⟨rfl, HB7.out⟩
end Go.Proofs.Ytafididfgljfcaa
