/-
  The walk of the law ReedsolomonLinear.
-/
import Derived.Test.YtjepedejclfnmaaRsPre
import Derived.Deep.RegionWith
import Derived.Test.YtjepedejclfnmaaBl
namespace Go.Proofs.Ytjepedejclfnmaa
open Go.RowKit
set_option linter.unusedVariables false

theorem rxor_str (s t Z : ByteArray) (n : Nat) (hs : s.size = n) (ht : t.size = n) (hn : n ≤ 100000) (hZ : Z.data.toList = xorL s.data.toList t.data.toList) (w : World) : Calls Try.prog 20 #[.string s, .string t] w fun e w' => e = .returned (.string Z) ∧ Below w.heap.size w w' := by
  have := rxor_any s t n hs ht hn w
  rw [show (⟨(xorL s.data.toList t.data.toList).toArray⟩ : ByteArray) = Z from ba_ext hZ.symm] at this
  exact this
theorem ba_of (l : List UInt8) : ∃ Z : ByteArray, Z.data.toList = l ∧ Z.size = l.length := ⟨⟨l.toArray⟩, rfl, rfl⟩

set_option maxRecDepth 100000 in
set_option maxHeartbeats 4000000 in
theorem reedsolomonLinear.walk (a : ByteArray) (w0 : a.size ≤ maxLen) (b : ByteArray) (w1 : b.size ≤ maxLen) (q : Int) (w2 : (Lit.int .u8 q).wf = true) (w : World) :
    Calls Try.prog 5 #[.string a, .string b, .int .u8 q] w fun e w' => e = .returned (.bool true) ∧ Below w.heap.size w w' := by
  obtain ⟨Q, hQ, rfl⟩ := u8_of w2
  obtain ⟨p, n, X, Y, h1, h2, h3, hp, hn, hX, hY, hXs, hYs, hla, hlb, hw⟩ := words_use a b w0 w1 Q hQ
  obtain ⟨A, hA⟩ : ∃ A, a.extract 0 n = A := ⟨_, rfl⟩
  obtain ⟨B, hB⟩ : ∃ B, b.extract 0 n = B := ⟨_, rfl⟩
  have hAd : A.data.toList = a.data.toList.take n := by rw [← hA]; exact take_extract a n
  have hBd : B.data.toList = b.data.toList.take n := by rw [← hB]; exact take_extract b n
  have hAs : A.size = n := by rw [← hla, ← hAd]; rfl
  have hBs : B.size = n := by rw [← hlb, ← hBd]; rfl
  rw [← hAd] at hX hla
  rw [← hBd] at hY hlb
  obtain ⟨Z, hZ, hZs⟩ := ba_of (xorL A.data.toList B.data.toList)
  have hZn : Z.size = n := by rw [hZs, xorL_len, hla, hlb]; omega
  obtain ⟨V, hV, hVs⟩ := ba_of (xorL X.data.toList Y.data.toList)
  have hx1 := fun w => rxor_str A B Z n hAs hBs (by omega) hZ w
  have hx2 := fun w => rxor_str X Y V (n + p) hXs hYs (by omega) hV w
  have henc := fun w => enc_str Z V (xorL A.data.toList B.data.toList) p n (show _ = _ by apply ba_ext; rw [hV, hX, hY]; exact enc_xor _ _ p (by omega)) hZ (show _ = _ by rw [← hZs]; exact hZn) h1 h2 h3 w
  have e1 : IntKind.i64.wrap ((X.size : Int) - p) = n := by rw [show (X.size : Int) - p = n by omega]; exact IntWalk.i64_in _ (by omega)
  have e4 : (n : Int) ≤ a.size := by omega
  have e5 : (n : Int) ≤ b.size := by omega
  have HW := Lib.hid hw
  have HX1 := Lib.hid hx1
  have HX2 := Lib.hid hx2
  have HE := Lib.hid henc
  have HLA := Lib.hid hla
  have HLB := Lib.hid hlb
  have HAS := Lib.hid hAs
  have HBS := Lib.hid hBs
  have HZN := Lib.hid hZn
  have HZ := Lib.hid hZ
  clear hX hY hXs hYs hla hlb hw hn w0 w1 w2 hp hAd hBd hAs hBs hZ hZs hZn hV hVs hx1 hx2 henc
  by_cases hlt : n < p
  · go_enter Try.func5, Try.ntmps5
    go_wp2_with fail
    refine (HW.out _).mono ?_
    rintro e w1 ⟨rfl, hB1⟩
    have HB1 := Lib.hid hB1
    clear hB1
    go_wp2_with fail
    refine wp_region_class (C := (fun w' : World => Below w1.heap.size w1 w')) (by kernel_rfl) (by kernel_rfl) ((Below.refl _ _).drew) ?_
    repeat
      (refine wpQuiet_step (fun K hK => ?_)
       first
       | (refine bl_skip (by rfl) ?_; go_simp; refine hK _ ?_; clear hK K)
       | (refine bl_want (by rfl) ?_
          apply Exists.intro
          apply And.intro
          next =>
            intro w' hw'
            unfold Oper.quietAt
            go_simp
            first | exact rfl | (first | exact (HX1.out w').mono fun e w'' ⟨he, hb⟩ => ⟨he, bt hw' hb⟩ | exact (HE.out w').mono fun e w'' ⟨he, hb⟩ => ⟨he, bt hw' hb⟩)
          go_simp
          refine hK _ ?_
          clear hK K))
    refine wpQuiet_nil ?_
    intro w' hw'
    rename_i w3
    have HB3 := Lib.hid (bt HB1.out hw')
    clear hw'
    go_wp2_with fail
    refine (HX2.out _).mono ?_
    rintro e w4 ⟨rfl, hB4⟩
    have HB4 := Lib.hid (bt HB3.out hB4)
    clear hB4
    go_wp2_with fail
    refine (awake_any _).mono ?_
    rintro e w5 ⟨rfl, hB5⟩
    have HB5 := Lib.hid (bt HB4.out hB5)
    clear hB5
    go_wp2
    go_ret
    exact ⟨rfl, HB5.out⟩
  · have hpn : p ≤ n := by omega
    obtain ⟨S1, hS1, hS1s⟩ := ba_of (synB A.data.toList p)
    obtain ⟨S2, hS2, hS2s⟩ := ba_of (synB B.data.toList p)
    obtain ⟨S3, hS3, hS3s⟩ := ba_of (synB Z.data.toList p)
    have hl1 : (synB A.data.toList p).length = p := synB_len _ _
    have hl2 : (synB B.data.toList p).length = p := synB_len _ _
    have hl3 : (synB Z.data.toList p).length = p := synB_len _ _
    have hx3 := fun w => rxor_str S1 S2 S3 p (by omega) (by omega) (by omega) (by rw [hS1, hS2, hS3, HZ.out]; exact syn_xor _ _ p (by rw [HLA.out, HLB.out])) w
    have hy1 := fun w => syn_ok A p h1 h2 (by rw [HAS.out]; exact hpn) (by rw [HAS.out]; omega) w
    have hy2 := fun w => syn_ok B p h1 h2 (by rw [HBS.out]; exact hpn) (by rw [HBS.out]; omega) w
    have hy3 := fun w => syn_ok Z p h1 h2 (by rw [HZN.out]; exact hpn) (by rw [HZN.out]; omega) w
    have hstr : ∀ (S : ByteArray) (l : List UInt8) (w' : World) (g : Nat), S.data.toList = l → l.length = p → Cells w' g l → (convert 22 9 (.slice (some ⟨g, 0, none⟩) p p)).run Try.prog w' = .ok (.string S) w' := by
      intro S l w' g hS hl hC
      rw [run_str (P := Try.prog) w' 22 9 5 g p p l Try.underlying22 Try.underlying5 Try.underlying9 hC hl]
      rw [show (⟨l.toArray⟩ : ByteArray) = S from ba_ext hS.symm]
    obtain ⟨l1, hl1e⟩ : ∃ l1, synB A.data.toList p = l1 := ⟨_, rfl⟩
    obtain ⟨l2, hl2e⟩ : ∃ l2, synB B.data.toList p = l2 := ⟨_, rfl⟩
    obtain ⟨l3, hl3e⟩ : ∃ l3, synB Z.data.toList p = l3 := ⟨_, rfl⟩
    rw [hl1e] at hy1 hS1 hl1
    rw [hl2e] at hy2 hS2 hl2
    rw [hl3e] at hy3 hS3 hl3
    have HX3 := Lib.hid hx3
    have HY1 := Lib.hid hy1
    have HY2 := Lib.hid hy2
    have HY3 := Lib.hid hy3
    have T1 := Lib.hid (fun w' g h => hstr S1 l1 w' g hS1 hl1 h)
    have T2 := Lib.hid (fun w' g h => hstr S2 l2 w' g hS2 hl2 h)
    have T3 := Lib.hid (fun w' g h => hstr S3 l3 w' g hS3 hl3 h)
    clear hx3 hy1 hy2 hy3 hstr hl1e hl2e hl3e hS1 hS2 hS3 hS1s hS2s hS3s hl1 hl2 hl3
    go_enter Try.func5, Try.ntmps5
    go_wp2_with fail
    refine (HW.out _).mono ?_
    rintro e w1 ⟨rfl, hB1⟩
    have HB1 := Lib.hid hB1
    clear hB1
    go_wp2_with fail
    refine wp_region_class (C := (fun w' : World => Below w1.heap.size w1 w')) (by kernel_rfl) (by kernel_rfl) ((Below.refl _ _).drew) ?_
    repeat
      (refine wpQuiet_step (fun K hK => ?_)
       first
       | (refine bl_skip (by rfl) ?_; go_simp; refine hK _ ?_; clear hK K)
       | (refine bl_want (by rfl) ?_
          apply Exists.intro
          apply And.intro
          next =>
            intro w' hw'
            unfold Oper.quietAt
            go_simp
            first | exact rfl | (first | exact (HX1.out w').mono fun e w'' ⟨he, hb⟩ => ⟨he, bt hw' hb⟩ | exact (HE.out w').mono fun e w'' ⟨he, hb⟩ => ⟨he, bt hw' hb⟩)
          go_simp
          refine hK _ ?_
          clear hK K))
    refine wpQuiet_nil ?_
    intro w' hw'
    rename_i w3
    have HB3 := Lib.hid (bt HB1.out hw')
    clear hw'
    go_wp2_with fail
    refine (HX2.out _).mono ?_
    rintro e w4 ⟨rfl, hB4⟩
    have HB4 := Lib.hid (bt HB3.out hB4)
    clear hB4
    go_wp2_with fail
    refine (HY1.out _).mono ?_
    rintro e w5 ⟨g1, rfl, hg1, hC1, hB5⟩
    have HB5 := Lib.hid (bt HB4.out hB5)
    have HC1 := Lib.hid hC1
    clear hB5 hC1
    go_wp2_with fail
    refine (HY2.out _).mono ?_
    rintro e w6 ⟨g2, rfl, hg2, hC2, hB6⟩
    have HB6 := Lib.hid (bt HB5.out hB6)
    have HC1 := Lib.hid (HC1.out.kept hB6)
    have HC2 := Lib.hid hC2
    clear hB6 hC2
    go_wp2_with fail
    go_region_with (first
      | (go_at_call 20; refine (HX1.out _).mono ?_; rintro e w7 ⟨rfl, hb7⟩)
      | (go_at_call 15; refine (HY3.out _).mono ?_; rintro e w8 ⟨g3, rfl, hg3, hC3, hb8⟩))
    have HB8 := Lib.hid (bt (bt HB6.out.drew hb7) hb8)
    have HC1 := Lib.hid ((HC1.out.drew.kept hb7).kept hb8)
    have HC2 := Lib.hid ((HC2.out.drew.kept hb7).kept hb8)
    have HC3 := Lib.hid hC3
    clear hb7 hb8 hC3
    go_wp2_with fail
    simp only [Act.put, List.getElem_toArray, List.getElem_cons_succ, List.getElem_cons_zero, List.setIfInBounds_toArray, List.set_cons_succ, List.set_cons_zero]
    refine wp_region_class (C := (fun w' : World => Below w8.heap.size w8 w')) (by kernel_rfl) (by kernel_rfl) ((Below.refl _ _).drew) ?_
    repeat
      (refine wpQuiet_step (fun K hK => ?_)
       first
       | (refine bl_skip (by rfl) ?_; go_simp; refine hK _ ?_; clear hK K)
       | (refine bl_want (by rfl) ?_
          apply Exists.intro
          apply And.intro
          next =>
            intro w' hw'
            have q1 := T1.out w' g1 (HC1.out.kept hw')
            have q2 := T2.out w' g2 (HC2.out.kept hw')
            have q3 := T3.out w' g3 (HC3.out.kept hw')
            unfold Oper.quietAt
            go_simp
            first | exact rfl | (first | exact (HX3.out w').mono fun e w'' ⟨he, hb⟩ => ⟨he, bt hw' hb⟩ | exact (awake_any w').mono fun e w'' ⟨he, hb⟩ => ⟨he, bt hw' hb⟩)
          go_simp
          refine hK _ ?_
          clear hK K))
    refine wpQuiet_nil ?_
    intro w' hw'
    have HB10 := Lib.hid (bt HB8.out hw')
    clear hw'
    go_wp2
    go_ret
    exact ⟨rfl, HB10.out⟩
end Go.Proofs.Ytjepedejclfnmaa
