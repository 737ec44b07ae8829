/-
  The walk of rsdecode.locator.
-/
import Derived.Test.YtamkahjdedomlaaDk3
import Derived.Test.YtamkahjdedomlaaBm
import Derived.Test.YtamkahjdedomlaaIv
namespace Go.Proofs.Ytamkahjdedomlaa
open Go.RowKit
set_option linter.unusedVariables false

theorem at_any2 (g c d n : Nat) (p : List UInt8) (x : UInt8) (hx : Hid (p[d]?.getD 0 = x)) (w : World) (hp : Cells w g p) (hn : p.length = n) : Calls Try.prog 49 #[.slice (some ⟨g, 0, none⟩) n c, .int .i64 d] w fun e w' => e = .returned (.int .u8 x.toNat) ∧ w = w' := by
  subst hn; rw [← hx.out]; exact at_any g c d p w hp

theorem bmStep_none {syn : List UInt8} {s n : Nat} {st : BM} (h : dTo st.l syn n (n + 1) = 0) : bmStep syn s n st = { st with gap := st.gap + 1 } := if_pos h
theorem bmStep_long {syn : List UInt8} {s n : Nat} {st : BM} (h : dTo st.l syn n (n + 1) ≠ 0) (h2 : 2 * st.len ≤ n + s) : bmStep syn s n st = ⟨bmNext st.l st.prev st.gap (dTo st.l syn n (n + 1)) st.last, st.l, n + s + 1 - st.len, 1, dTo st.l syn n (n + 1)⟩ := by
  unfold bmStep; rw [if_neg h, if_pos h2]
theorem bmStep_short {syn : List UInt8} {s n : Nat} {st : BM} (h : dTo st.l syn n (n + 1) ≠ 0) (h2 : ¬ 2 * st.len ≤ n + s) : bmStep syn s n st = ⟨bmNext st.l st.prev st.gap (dTo st.l syn n (n + 1)) st.last, st.prev, st.len, st.gap + 1, st.last⟩ := by
  unfold bmStep; rw [if_neg h, if_neg h2]
theorem bmTo_next {syn er : List UInt8} {s m : Nat} {st st' : BM} (hm : s ≤ m) (h : bmTo syn er s (m - s) = st) (h2 : bmStep syn s m st = st') : bmTo syn er s (m + 1 - s) = st' := by
  rw [show m + 1 - s = (m - s) + 1 by omega]
  show bmStep syn s (s + (m - s)) (bmTo syn er s (m - s)) = st'
  rw [show s + (m - s) = m by omega, h, h2]

/-- What the outer loop keeps. -/
def LocRel (B : Nat) (w : World) (syn er : List UInt8) (s m : Nat) (L P : List UInt8) (a b : Nat) (z : UInt8) (lv pv : Value) (wr : World) : Prop :=
  Sl wr B lv L ∧ Sl wr B pv P ∧ bmTo syn er s (m - s) = ⟨L, P, a, b, z⟩ ∧ Below B w wr

set_option maxRecDepth 100000 in
set_option maxHeartbeats 4000000 in
theorem locator_any (g1 g2 c1 c2 p N s : Nat) (syn er : List UInt8) (w : World) (hS : Cells w g1 syn) (hE : Cells w g2 er) (hp : syn.length = p) (hN : er.length = N) (hs : N = s + 1) (hsp : s ≤ p) (hp64 : p ≤ 64) (hcE : N ≤ c2) (hcm : c2 ≤ maxLen) (h0 : co er 0 = 1) :
    Calls Try.prog 28 #[.slice (some ⟨g1, 0, none⟩) p c1, .slice (some ⟨g2, 0, none⟩) N c2] w fun e w' => ∃ v', e = .returned v' ∧ Sl w' w.heap.size v' (locB syn er) ∧ Below w.heap.size w w' := by
  have HSy := Lib.hid hS
  have HE := Lib.hid hE
  have HSL := Lib.hid hp
  have HEL := Lib.hid hN
  have e0 : (N : Int) - 1 = s := by omega
  have HEN : N ≤ 66 := by omega
  have HEs : Sl w 0 (.slice (some ⟨g2, 0, none⟩) N c2) er := Sl.of_cells hE (Nat.zero_le _) (by omega) hcm _ hN
  have hOk := fun k => bmTo_ok syn er s k (by omega) h0
  have HOk := Lib.hid hOk
  have HLoc : Hid (locB syn er = trim (bmTo syn er s (p - s)).l) := by unfold locB Hid; rw [hN, hp, show N - 1 = s by omega]
  have HES := Lib.hid HEs
  have hNs : N ≤ s + 1 := by omega
  clear hS hE hp hN hs h0 HEs hOk hcE hcm
  go_enter Try.func28, Try.ntmps28
  go_wp2_with fail
  refine (clone_any _ er _ HES.out (by rw [HEL.out]; omega)).mono ?_
  rintro e w1 ⟨v1, rfl, hs1, hb1⟩
  have HS1 := Lib.hid hs1
  have HB1 := Lib.hid hb1
  clear hs1 hb1
  go_wp2_with fail
  refine (clone_any _ er _ (by have := HES.out.kept HB1.out; exact this) (by rw [HEL.out]; omega)).mono ?_
  rintro e w2 ⟨v2, rfl, hs2, hb2⟩
  have HS2 := Lib.hid (hs2.mono HB1.out.size)
  have HS1' := Lib.hid (HS1.out.kept hb2)
  have HB2 := Lib.hid (bt HB1.out hb2)
  clear hs2 hb2 HS1 HB1
  go_wp2
  go_loopw [6, 7, 8, 9, 10, 11] (fun lv pv len gap last n wr => ∃ (m : Nat) (L P : List UInt8) (a b : Nat) (z : UInt8), s ≤ m ∧ m ≤ p ∧ n = .int .i64 m ∧ len = .int .i64 a ∧ gap = .int .i64 b ∧ last = .int .u8 z.toNat ∧ Hid (LocRel w.heap.size w syn er s m L P a b z lv pv wr)) (fun _ _ _ _ _ n _ => p - (intOf n).toNat)
  case atStart =>
    exact ⟨s, er, er, s, 1, 1, Nat.le_refl _, hsp, rfl, rfl, rfl, rfl, HS1'.out, HS2.out, by rw [Nat.sub_self]; rfl, HB2.out⟩
  case round =>
    obtain ⟨m, L, P, a, b, z, hm1, hm2, rfl, rfl, rfl, rfl, HR⟩ := hrel
    clear HS1' HS2 HB2
    obtain ⟨k, hk⟩ : ∃ k, m = s + k := ⟨m - s, by omega⟩
    have hok : BM.Ok s k ⟨L, P, a, b, z⟩ := by
      have := HOk.out k
      rw [← HR.out.2.2.1, show m - s = k by omega]; exact this
    obtain ⟨o1, o2, o3, o4, o5, o6, o7, o8⟩ := hok
    simp only at o1 o2 o3 o4 o5 o6 o7 o8
    have HLne := Lib.hid (co_ne_nil L 0 (by rw [o6]; exact F.one_ne_zero))
    have HPne := Lib.hid (co_ne_nil P 0 (by rw [o7]; exact F.one_ne_zero))
    have HL0 := Lib.hid o6
    have HP0 := Lib.hid o7
    have HZ := Lib.hid o8
    have HK := Lib.hid hk
    have hk2 : k ≤ 64 := by omega
    have ha1 : a ≤ 64 := by omega
    have hL1 : L.length ≤ 66 := by omega
    have hP1 : P.length ≤ 66 := by omega
    have hb1 : b ≤ 66 := by omega
    clear hk o1 o2 o4 o5 o6 o7 o8
    obtain ⟨gl, cl, rfl, hcl1, hcl2, hgl, hCl⟩ := HR.out.1.some HLne.out
    obtain ⟨nl, hnl⟩ : ∃ nl, L.length = nl := ⟨_, rfl⟩
    rw [hnl] at hL1 hcl1 HR ⊢
    have HNL := Lib.hid hnl
    have HCL := Lib.hid hCl
    clear hnl hCl
    obtain ⟨wo, rfl⟩ : ∃ wo : World, wo = wr := ⟨_, rfl⟩
    by_cases hlt : m < p
    · go_wp2
      go_loopw [12, 13] (fun d i wr => ∃ (j : Nat) (y : UInt8), j ≤ m + 1 ∧ i = .int .i64 j ∧ d = .int .u8 y.toNat ∧ Hid (dTo L syn m j = y) ∧ ∃ q, Hid (wr = wo.drewN q)) (fun _ i _ => m + 1 - (intOf i).toNat)
      case atStart => exact ⟨0, 0, Nat.zero_le _, rfl, rfl, rfl, 0, rfl⟩
      case round =>
        obtain ⟨j, y, hj, rfl, rfl, HD, q, HQ⟩ := hrel
        by_cases hlj : j ≤ m
        · have hcs := (HSy.out.kept HR.out.2.2.2).at (m - j) (by rw [HSL.out]; omega)
          have hcs' : wr.cell? ⟨g1, m - j, none⟩ = some (.int .u8 ((syn[m - j]?.getD 0).toNat : Int)) := by rw [HQ.out]; exact hcs
          clear hcs
          have HC2 : Hid (Cells wr gl L) := by unfold Hid; rw [HQ.out]; exact HCL.out
          obtain ⟨u, hu⟩ : ∃ u, L[j]?.getD 0 = u := ⟨_, rfl⟩
          obtain ⟨v, hv⟩ : ∃ v, syn[m - j]?.getD 0 = v := ⟨_, rfl⟩
          obtain ⟨r, hr⟩ : ∃ r, y ^^^ F.mulB u v = r := ⟨_, rfl⟩
          have HD' : Hid (dTo L syn m (j + 1) = r) := by unfold Hid; simp only [dTo]; rw [HD.out, hu, hv, hr]
          rw [hv] at hcs'
          have HU := Lib.hid hu
          have HRr := Lib.hid hr
          clear hu hv hr
          have e1 : IntKind.i64.wrap ((m : Int) - j) = (m : Int) - j := IntWalk.i64_in _ (by omega)
          have e3 : ((m : Int) - j).toNat = m - j := by omega
          have e4 : 0 ≤ (m : Int) - j := by omega
          have e5 : (m : Int) - j < (p : Int) := by omega
          go_wp2_with fail
          go_quiet ((first
            | (go_at_call 49; exact quiet_same (at_any2 gl cl j nl L u HU _ (HC2.out.drewN _) HNL.out))
            | (go_at_call 32; exact quiet_same (mul_any u v _))
            | (go_at_call 33; exact quiet_same (add_r y (F.mulB u v) r HRr _))))
          go_wp2
          go_roundw
          case rel => exact ⟨j + 1, r, by omega, by go_num, rfl, HD', q + nq, by unfold Hid; rw [HQ.out, World.drewN_drewN]⟩
          case measure => simp [intOf] <;> omega
        · have HJ : Hid (j = m + 1) := by unfold Hid; omega
          have HDm : Hid (dTo L syn m (m + 1) = y) := by unfold Hid; rw [← HJ.out]; exact HD.out
          have hjm : m < j := by omega
          have HR2 : Hid (LocRel w.heap.size w syn er s m L P a b z (.slice (some ⟨gl, 0, none⟩) nl cl) u7 wr) := by
            unfold Hid; rw [HQ.out]; exact ⟨HR.out.1, HR.out.2.1, HR.out.2.2.1, bdN HR.out.2.2.2 q⟩
          have HC2 : Hid (Cells wr gl L) := by unfold Hid; rw [HQ.out]; exact HCL.out
          by_cases hy : y = 0
          · have hy0 : ((y.toNat : Int) == 0) = true := u8_eq y 0 0 rfl hy
            have HY := Lib.hid hy
            clear hy
            go_wp2
            go_roundw
            case rel => exact ⟨m + 1, L, P, a, b + 1, z, by omega, by omega, by go_num, rfl, by go_num, rfl, HR2.out.1, HR2.out.2.1, bmTo_next hm1 HR2.out.2.2.1 (bmStep_none (by show dTo L syn m (m + 1) = 0; rw [HDm.out, HY.out])), HR2.out.2.2.2⟩
            case measure => simp [intOf] <;> omega
          · have hy0 : ((y.toNat : Int) == 0) = false := u8_ne y 0 0 rfl hy
            have HY := Lib.hid hy
            clear hy
            obtain ⟨gp, cp, rfl, hcp1, hcp2, hgp, hCp⟩ := HR2.out.2.1.some HPne.out
            obtain ⟨np, hnp⟩ : ∃ np, P.length = np := ⟨_, rfl⟩
            rw [hnp] at hP1 hcp1 HR2 ⊢
            have HNP := Lib.hid hnp
            have HCP := Lib.hid hCp
            clear hnp hCp
            go_wp2_with fail
            refine (div_nz y z HZ.out _).mono ?_
            rintro e w3 ⟨rfl, hb3⟩
            have HB3 := Lib.hid hb3
            clear hb3
            obtain ⟨t, ht⟩ : ∃ t, F.divB y z = t := ⟨_, rfl⟩
            have htz : co (pmul P [t]) 0 ≠ 0 := by
              rw [co_scaled, HP0.out, F.one_mul, ← ht]
              exact F.mul_ne_zero HY.out (F.pow_ne_zero HZ.out 254)
            have hsl := scaled_len P t
            rw [HNP.out] at hsl
            rw [ht]
            have HT := Lib.hid ht
            have HTZ := Lib.hid (co_ne_nil _ 0 htz)
            clear ht htz
            go_wp2_with fail
            refine (scaled_any gp cp np P t _ (HCP.out.kept HB3.out) HNP.out (by omega)).mono ?_
            rintro e w4 ⟨v4, rfl, hs4, hb4⟩
            have HB4 := Lib.hid (bt HB3.out hb4)
            obtain ⟨g4, c4, rfl, _, _, _, hC4⟩ := hs4.some HTZ.out
            obtain ⟨n4, hn4⟩ : ∃ n4, (pmul P [t]).length = n4 := ⟨_, rfl⟩
            rw [hn4] at hsl ⊢
            have HN4 := Lib.hid hn4
            have HC4 := Lib.hid hC4
            clear hs4 hb4 hn4 hC4
            go_wp2_with fail
            refine (shifted_any g4 c4 n4 b (pmul P [t]) _ HC4.out HN4.out (by omega) (by omega)).mono ?_
            rintro e w5 ⟨v5, rfl, hs5, hb5⟩
            have HB5 := Lib.hid (bt HB4.out hb5)
            obtain ⟨g5, c5, rfl, _, _, _, hC5⟩ := hs5.some (by intro e; have := congrArg List.length e; rw [List.length_append, List.length_replicate] at this; simp at this; omega)
            obtain ⟨n5, hn5⟩ : ∃ n5, (List.replicate b 0 ++ pmul P [t]).length = n5 := ⟨_, rfl⟩
            have hn5b : n5 ≤ 200 := by rw [← hn5, List.length_append, List.length_replicate, HN4.out]; omega
            rw [hn5]
            have HN5 := Lib.hid hn5
            have HC5 := Lib.hid hC5
            clear hs5 hb5 hn5 hC5
            go_wp2_with fail
            refine (add_poly gl g5 cl c5 nl n5 L (List.replicate b 0 ++ pmul P [t]) _ (HC2.out.kept HB5.out) HC5.out HNL.out HN5.out (by omega) (by omega)).mono ?_
            rintro e w6 ⟨v6, rfl, hs6, hb6⟩
            have HB6 := Lib.hid (bt HB5.out hb6)
            have hwz := HR2.out.2.2.2.size
            have HS6 : Hid (Sl w6 w.heap.size v6 (bmNext L P b y z)) := by
              unfold bmNext; rw [HT.out]; exact hs6.mono (by have := HB5.out.size; omega)
            have HBw : Hid (Below w.heap.size w w6) := bt HR2.out.2.2.2 HB6.out
            have HLk : Hid (Sl w6 w.heap.size (.slice (some ⟨gl, 0, none⟩) nl cl) L) := HR2.out.1.kept HB6.out
            have HPk : Hid (Sl w6 w.heap.size (.slice (some ⟨gp, 0, none⟩) np cp) P) := HR2.out.2.1.kept HB6.out
            clear hs6 hb6
            by_cases h2a : 2 * a ≤ m + s
            · have h2i : (2 : Int) * a ≤ (m : Int) + s := by omega
              go_wp2
              go_roundw
              case rel => exact ⟨m + 1, bmNext L P b y z, L, m + s + 1 - a, 1, y, by omega, by omega, by go_num, congrArg (Value.int .i64) (by omega), rfl, rfl, HS6.out, HLk.out, bmTo_next hm1 HR2.out.2.2.1 (by rw [bmStep_long (by show dTo L syn m (m + 1) ≠ 0; rw [HDm.out]; exact HY.out) h2a]; show BM.mk (bmNext L P b (dTo L syn m (m + 1)) z) _ _ _ _ = _; rw [HDm.out]), HBw.out⟩
              case measure => simp [intOf] <;> omega
            · have h2i : (m : Int) + s < (2 : Int) * a := by omega
              go_wp2
              go_roundw
              case rel => exact ⟨m + 1, bmNext L P b y z, P, a, b + 1, z, by omega, by omega, by go_num, rfl, by go_num, rfl, HS6.out, HPk.out, bmTo_next hm1 HR2.out.2.2.1 (by rw [bmStep_short (by show dTo L syn m (m + 1) ≠ 0; rw [HDm.out]; exact HY.out) h2a]; show BM.mk (bmNext L P b (dTo L syn m (m + 1)) z) _ _ _ _ = _; rw [HDm.out]), HBw.out⟩
              case measure => simp [intOf] <;> omega
    · have HM : Hid (m = p) := by unfold Hid; omega
      have hpm : p ≤ m := by omega
      go_wp2_with fail
      refine (trim_any _ L _ (HR.out.1.mono (Nat.zero_le _)) (by rw [HNL.out]; omega)).mono ?_
      rintro e w' ⟨v', rfl, hs, hb⟩
      go_wp2
      go_ret
      refine ⟨_, rfl, ?_, bt HR.out.2.2.2 hb⟩
      have h1 := HR.out.2.2.1
      rw [HM.out] at h1
      rw [HLoc.out, h1]
      exact hs.mono HR.out.2.2.2.size
end Go.Proofs.Ytamkahjdedomlaa
