/-
  The walk of the law RsdecodeCodeword.
-/
import Derived.Test.YtamkahjdedomlaaRdPre
import Derived.Test.YtamkahjdedomlaaDecT3
namespace Go.Proofs.Ytamkahjdedomlaa
open Go.RowKit
set_option linter.unusedVariables false

theorem u8_nat {q : Int} (h : (Lit.int .u8 q).wf = true) : ∃ Q : Nat, Q < 256 ∧ q = Q := by
  have := bounds_u8 h
  exact ⟨q.toNat, by omega, by omega⟩
theorem diffs_self (C : List UInt8) : diffs C C = [] := by
  unfold diffs
  rw [List.filter_eq_nil_iff]
  intro i _
  simp
/-- A code word decodes to itself. -/
theorem dec_self {C : List UInt8} {q : Nat} {zs : List Int} (hok : 1 ≤ q ∧ q ≤ 64 ∧ q ≤ C.length ∧ C.length ≤ 255) (hcw : ∀ i, i < q → horn C (F.expB i) = 0) (hroom : ∀ x ∈ zs, inR C.length x) (hz : zs.length ≤ q) : decB C q zs = (C, 0, 0) := by
  have h := dec_in_radius hok rfl hcw hroom (by
    rw [diffs_self]
    have := lost_len zs
    show 2 * 0 + _ ≤ _
    omega)
  rw [diffs_self] at h
  exact h

/-- What the law's loop collects: each number, reduced. -/
def redTo8 (zs : List Int) (N : Nat) (k : Nat) : List Int := (zs.take k).map fun z => z % (N : Int)
theorem redTo8_succ (zs : List Int) (N k : Nat) (h : k < zs.length) : redTo8 zs N (k + 1) = redTo8 zs N k ++ [(zs[k]?.getD 0) % (N : Int)] := by
  unfold redTo8
  rw [List.take_succ_eq_append_getElem h, List.map_append, List.getElem?_eq_getElem h]; rfl
theorem redTo8_len (zs : List Int) (N k : Nat) (h : k ≤ zs.length) : (redTo8 zs N k).length = k := by
  unfold redTo8; rw [List.length_map, List.length_take]; omega
theorem redTo8_in (zs : List Int) (N k : Nat) (hN : 0 < N) : ∀ x ∈ redTo8 zs N k, inR N x := by
  intro x hx
  obtain ⟨z, _, rfl⟩ := List.mem_map.1 hx
  exact ⟨Int.emod_nonneg _ (by omega), Int.emod_lt_of_pos _ (by omega)⟩

theorem IsInts.form8 {k : IntKind} {w : World} {v : Value} {l : List Int} (h : IsInts k w v l) : ∃ a off cap, v = .slice a l.length cap ∧ l.length ≤ maxLen ∧ (∀ i, i < l.length → ∃ b, a = some ⟨b, off, none⟩ ∧ b < w.heap.size ∧ w.cell? ⟨b, off + i, none⟩ = some (.int k (l[i]?.getD 0))) ∧ ∀ n ∈ l, (Lit.int k n).wf = true := by
  rcases h with ⟨a, cap, rfl, rfl⟩ | ⟨b, off, cap, e1, e2, e3, e4, e5, e6, e7⟩
  · exact ⟨a, 0, cap, rfl, by simp, fun i hi => by simp at hi, fun n hn => by cases hn⟩
  · exact ⟨_, off, cap, e1, by omega, fun i hi => ⟨b, rfl, e4, e6 i hi⟩, e7⟩

set_option maxRecDepth 100000 in
set_option maxHeartbeats 4000000 in
theorem rsdecodeCodeword.walk (w : World) (s : ByteArray) (w0 : s.size ≤ maxLen) (q0 : Int) (w1 : (Lit.int .u8 q0).wf = true) (v2 : Value) (zs : List Int) (hz : IsInts .u8 w v2 zs) :
    Calls Try.prog 7 #[.string s, .int .u8 q0, v2] w fun e w' => e = .returned (.bool true) ∧ Below w.heap.size w w' := by
  obtain ⟨Q, hQ, rfl⟩ := u8_nat w1
  obtain ⟨a2, off, cap, hv2, hnzb, hf2, hwf⟩ := hz.form8
  obtain ⟨nz, hnz⟩ : ∃ nz, zs.length = nz := ⟨_, rfl⟩
  rw [hnz] at hv2 hf2 hnzb
  have HWf := Lib.hid hwf
  have HNZ := Lib.hid hnz
  have HF2 := Lib.hid hf2
  subst hv2
  unfold maxLen at w0 hnzb
  obtain ⟨p, hp⟩ : ∃ p : Nat, (1 : Int) + (Q : Int) % 16 = p := ⟨1 + Q % 16, by omega⟩
  have hp1 : 1 ≤ p := by omega
  have hp2 : p ≤ 16 := by omega
  have e1 : IntKind.i64.wrap ((1 : Int) + (Q : Int) % 16) = p := by rw [hp]; exact IntWalk.i64_in _ (by omega)
  obtain ⟨W, hW⟩ : ∃ W, s.data.toList = W := ⟨_, rfl⟩
  have HW := Lib.hid hW
  clear hz hf2 hwf hnz hW w1
  by_cases hs40 : 40 < s.size
  · go_enter Try.func7, Try.ntmps7
    go_wp2_with fail
    refine (alive_any _).mono ?_
    rintro e w1 ⟨rfl, hB1⟩
    have HB1 := Lib.hid hB1
    clear hB1
    go_wp2
    go_ret
    exact ⟨rfl, HB1.out⟩
  · by_cases hnp : p < nz
    · go_enter Try.func7, Try.ntmps7
      go_wp2_with fail
      refine (alive_any _).mono ?_
      rintro e w1 ⟨rfl, hB1⟩
      have HB1 := Lib.hid hB1
      clear hB1
      go_wp2
      go_ret
      exact ⟨rfl, HB1.out⟩
    · have hle := encB_len W p
      obtain ⟨c, hc⟩ : ∃ c, encB W p = c := ⟨_, rfl⟩
      have hWl : W.length = s.size := by rw [← HW.out]; rfl
      have hcw : ∀ i, i < p → horn c (F.expB i) = 0 := fun i hi => by rw [← hc]; exact enc_root W p i hp1 hi
      have henc := fun w => enc_ok s p hp1 (by omega) (by omega) w
      rw [HW.out, hc] at henc
      rw [hc] at hle
      obtain ⟨X, hX, hXd, hXs⟩ := str_of c
      rw [hX] at henc
      have hXs2 : X.size = s.size + p := by omega
      have hdec : decB c p (redTo8 zs X.size nz) = (c, 0, 0) := dec_self ⟨hp1, by omega, by omega, by omega⟩ hcw (by rw [← hXs]; exact redTo8_in zs _ nz (by omega)) (by rw [redTo8_len _ _ _ (by rw [HNZ.out]; exact Nat.le_refl _)]; omega)
      have HDec := Lib.hid hdec
      have HEnc := Lib.hid henc
      have HX := Lib.hid hX
      have HXd := Lib.hid hXd
      have hXpos : 1 ≤ X.size := by omega
      have hX255 : X.size ≤ 100 := by omega
      have hst : (X.toList == X.toList) = true := beq_self_eq_true _
      clear hc hWl hcw henc hle hX hXd hXs hXs2 hdec
      go_enter Try.func7, Try.ntmps7
      go_wp2_with fail
      refine (alive_any _).mono ?_
      rintro e w1 ⟨rfl, hB1⟩
      have HB1 := Lib.hid hB1
      clear hB1
      go_wp2_with fail
      refine (HEnc.out _).mono ?_
      rintro e w2 ⟨rfl, hB2⟩
      have HB2 := Lib.hid (bt HB1.out hB2)
      clear hB2
      go_wp2
      go_loopw [10, 11] (fun v i wr => ∃ k : Nat, k ≤ nz ∧ i = .int .i64 k ∧ Hid (wr.ownsRow w.heap.size 3 1 v k ((redTo8 zs X.size k).map i64v)) ∧ Hid (Below w.heap.size w wr)) (fun _ i _ => nz - (intOf i).toNat)
      case atStart => exact ⟨0, Nat.zero_le _, rfl, World.ownsRow_nil _ _ _ _, HB2.out⟩
      case round =>
        obtain ⟨k, hk, rfl, HO, HB⟩ := hrel
        by_cases hlt : k < nz
        · obtain ⟨b2, rfl, hb2, hc2⟩ := HF2.out k hlt
          obtain ⟨z, hz⟩ : ∃ z, zs[k]?.getD 0 = z := ⟨_, rfl⟩
          obtain ⟨Z, hZ, rfl⟩ := u8_nat (HWf.out z (by rw [← hz, List.getElem?_eq_getElem (by rw [HNZ.out]; exact hlt)]; exact List.getElem_mem _))
          have hco : wr.cell? ⟨b2, off + k, none⟩ = some (.int .u8 (Z : Int)) := by rw [← hz]; exact (HB.out.cell (p := ⟨b2, off + k, none⟩) hb2).trans hc2
          have HS : Hid (redTo8 zs X.size (k + 1) = redTo8 zs X.size k ++ [(Z : Int) % (X.size : Int)]) := by unfold Hid; rw [redTo8_succ _ _ _ (by rw [HNZ.out]; exact hlt), hz]
          have HL := Lib.hid (redTo8_len zs X.size k (by rw [HNZ.out]; exact hk))
          have hwz := HB.out.size
          clear hz hc2
          go_wp2_with (at_builtin; refine wpList_append_ints rfl _ _ 23 3 rfl Try.underlying23 Try.infoI64 w.heap.size _ _ _ rfl (HO.out.alloc _) HL.out ?h2 wr.heap.size 1 1 [(Z : Int) % (X.size : Int)] rfl rfl ?h3 ?h4 ?_)
          case h2 => simp; omega
          case h3 => exact fun i hi => ((cellsI_one wr _ _).at i hi)
          case h4 => omega
          intro v' w' hown hgr
          have hb' : Below w.heap.size w w' := HB.out.trans (((Below.refl _ wr).alloc hwz _).trans (below_grown (HO.out.alloc _) hgr (by simp; omega) (Nat.le_refl _)))
          have HO' : Hid (w'.ownsRow w.heap.size 3 1 v' (k + 1) ((redTo8 zs X.size (k + 1)).map i64v)) := by unfold Hid; rw [HS.out, List.map_append]; exact hown
          clear hown hgr
          go_wp2
          go_roundw
          case rel => exact ⟨k + 1, by omega, by go_num, HO', hb'⟩
          case measure => simp [intOf] <;> omega
        · have HK : Hid (k = nz) := by unfold Hid; omega
          have hnk : nz ≤ k := by omega
          have HO2 : Hid (RdI wr u10 (redTo8 zs X.size nz)) := by
            have := HO.out
            rw [HK.out] at this
            exact (slI_of_owns this (redTo8_len _ _ _ (by rw [HNZ.out]; exact Nat.le_refl _))).rd
          go_wp2_with fail
          have hd := decode_r X c p u10 (redTo8 zs X.size nz) (c, 0, 0) wr HXd.out HO2.out (by rw [redTo8_len _ _ _ (by rw [HNZ.out]; exact Nat.le_refl _)]; omega) HDec.out
          rw [show (⟨(c, 0, 0).1.toArray⟩ : ByteArray) = X from HX.out] at hd
          refine hd.mono ?_
          rintro e w5 ⟨rfl, hb5⟩
          have HB5 := Lib.hid (bt HB.out hb5)
          clear hb5 hd
          go_wp2
          go_ret
          exact ⟨rfl, HB5.out⟩
end Go.Proofs.Ytamkahjdedomlaa
