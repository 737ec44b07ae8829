/-
  The walk of the law RsdecodeWithinRadius.
-/
import Derived.Test.YtamkahjdedomlaaDam
namespace Go.Proofs.Ytamkahjdedomlaa
open Go.RowKit
set_option linter.unusedVariables false

set_option maxRecDepth 100000 in
set_option maxHeartbeats 4000000 in
theorem rsdecodeWithinRadius.walk (w : World) (s : ByteArray) (w0 : s.size ≤ maxLen) (q0 : Int) (w1 : (Lit.int .u8 q0).wf = true) (va : Value) (al : List Int) (hA : IsInts .u8 w va al) (vb : Value) (bl : List Int) (hB : IsInts .u8 w vb bl) (ve : Value) (el : List Bool) (hE : IsBools w ve el) :
    Calls Try.prog 5 #[.string s, .int .u8 q0, va, vb, ve] w fun e w' => e = .returned (.bool true) ∧ Below w.heap.size w w' := by
  obtain ⟨Q, hQ, rfl⟩ := u8_nat w1
  obtain ⟨aA, oA, cA, hvA, hlA, _⟩ := hA.form8
  obtain ⟨nA, hnA⟩ : ∃ n, al.length = n := ⟨_, rfl⟩
  rw [hnA] at hvA hlA
  subst hvA
  unfold maxLen at w0 hlA
  have HNA := Lib.hid hnA
  have HA := Lib.hid hA
  have HB := Lib.hid hB
  have HE := Lib.hid hE
  obtain ⟨p, hp⟩ : ∃ p : Nat, (1 : Int) + (Q : Int) % 16 = p := ⟨1 + Q % 16, by omega⟩
  have hp1 : 1 ≤ p := by omega
  have hp2 : p ≤ 16 := by omega
  have e1 : IntKind.i64.wrap ((1 : Int) + (Q : Int) % 16) = p := by rw [hp]; exact IntWalk.i64_in _ (by omega)
  obtain ⟨W, hW⟩ : ∃ W, s.data.toList = W := ⟨_, rfl⟩
  have HW := Lib.hid hW
  clear hA hB hE hnA hW w1
  by_cases hs40 : 40 < s.size
  · go_enter Try.func5, Try.ntmps5
    go_wp2_with fail
    refine (alive_any _).mono ?_
    rintro e w1 ⟨rfl, hB1⟩
    have HB1 := Lib.hid hB1
    clear hB1
    go_wp2
    go_ret
    exact ⟨rfl, HB1.out⟩
  · by_cases hnp : 40 < nA
    · go_enter Try.func5, Try.ntmps5
      go_wp2_with fail
      refine (alive_any _).mono ?_
      rintro e w1 ⟨rfl, hB1⟩
      have HB1 := Lib.hid hB1
      clear hB1
      go_wp2
      go_ret
      exact ⟨rfl, HB1.out⟩
    · have hle := encB_len W p
      obtain ⟨c, hc⟩ : ∃ c, encB W p = c := ⟨_, rfl⟩
      have hWl : W.length = s.size := by rw [← HW.out]; rfl
      have hcw : ∀ i, i < p → horn c (F.expB i) = 0 := fun i hi => by rw [← hc]; exact enc_root W p i hp1 hi
      have henc := fun w => enc_ok s p hp1 (by omega) (by omega) w
      rw [HW.out, hc] at henc
      rw [hc] at hle
      obtain ⟨X, hX, hXd, hXs⟩ := str_of c
      rw [hX] at henc
      have hXs2 : X.size = s.size + p := by omega
      have HCok : Hid (1 ≤ p ∧ p ≤ 64 ∧ p ≤ c.length ∧ c.length ≤ 255) := ⟨hp1, by omega, by omega, by omega⟩
      have HCw := Lib.hid hcw
      have HEnc := Lib.hid henc
      have HX := Lib.hid hX
      have HXd := Lib.hid hXd
      have HXs := Lib.hid hXs
      have hXpos : 1 ≤ X.size := by omega
      have hX255 : X.size ≤ 100 := by omega
      have hst : (X.toList == X.toList) = true := beq_self_eq_true _
      clear hc hWl hcw henc hle hX hXd hXs hXs2
      go_enter Try.func5, Try.ntmps5
      go_wp2_with fail
      refine (alive_any _).mono ?_
      rintro e w1 ⟨rfl, hB1⟩
      have HB1 := Lib.hid hB1
      clear hB1
      go_wp2_with fail
      refine (HEnc.out _).mono ?_
      rintro e w2 ⟨rfl, hB2⟩
      have HB2 := Lib.hid (bt HB1.out hB2)
      clear hB2
      go_wp2_with fail
      refine (damage_any X c p nA _ _ _ al bl el _ HXd.out hp2 hXpos hX255 HNA.out (by omega) (HA.out.kept HB2.out) (HB.out.kept HB2.out) (HE.out.kept HB2.out)).mono ?_
      rintro e w3 ⟨W2, lost, S, b, v3, D, rfl, hs3, hb3⟩
      have HB3 := Lib.hid (bt HB2.out hb3)
      have HS3 := Lib.hid hs3.rd
      have hdec := D.dec HCok.out HCw.out
      have hll : lost.length ≤ 100000 := by
        have h1 := nodup_sub_len lost (S.map (·.1)) D.lnd D.lin
        have h2 := D.bud
        rw [List.length_map] at h1
        omega
      have hdn : (diffs W2 c).length = (difN c W2 X.size).length := by
        rw [← difN_diffs, D.len, HXs.out, difN_comm]
      rw [hdn] at hdec
      have HDec := Lib.hid hdec
      obtain ⟨dn, hdn2⟩ : ∃ dn, (difN c W2 X.size).length = dn := ⟨_, rfl⟩
      rw [hdn2] at HDec ⊢
      obtain ⟨Y, hY, hYd, hYs⟩ := str_of W2
      rw [hY]
      have HYd := Lib.hid hYd
      clear hb3 hs3 hdec hdn hdn2 hY hYd hYs D
      go_wp2_with fail
      have hd := decode_r Y W2 p v3 lost (c, dn, 0) w3 HYd.out HS3.out hll HDec.out
      rw [show (⟨(c, dn, 0).1.toArray⟩ : ByteArray) = X from HX.out] at hd
      refine hd.mono ?_
      rintro e w5 ⟨rfl, hb5⟩
      have HB5 := Lib.hid (bt HB3.out hb5)
      clear hb5 hd
      go_wp2
      go_ret
      exact ⟨rfl, HB5.out⟩
end Go.Proofs.Ytamkahjdedomlaa
