/-
  gauss, walked.
-/
import Derived.Test.YtamkahjdedomlaaR8MM
import Derived.Test.YtamkahjdedomlaaR8GS
import Derived.Test.YtamkahjdedomlaaSl
import Derived.StillTailTactics
namespace Go.Proofs.Ytamkahjdedomlaa
open Go.RowKit
set_option linter.unusedVariables false

def scTo (M : Mx) (i : Nat) (y : UInt8) (k : Nat) : Mx := fun a c => if a = i ∧ c < k then F.mulB (M a c) y else M a c
def elTo (M : Mx) (i j : Nat) : Mx := fun a c => if a < j ∧ a ≠ i then M a c ^^^ F.mulB (M a i) (M i c) else M a c
def elIn (M : Mx) (i j k : Nat) : Mx := fun a c => if a = j ∧ c < k then M j c ^^^ F.mulB (M j i) (M i c) else elTo M i j a c
theorem scTo_step (M : Mx) (i : Nat) (y : UInt8) (k a c : Nat) : updR (scTo M i y k) i k (F.mulB (M i k) y) a c = scTo M i y (k + 1) a c := by
  unfold updR scTo
  by_cases h : a = i ∧ c = k
  · obtain ⟨rfl, rfl⟩ := h
    rw [if_pos ⟨rfl, rfl⟩, if_pos ⟨rfl, by omega⟩]
  · rw [if_neg h]
    by_cases h2 : a = i ∧ c < k
    · rw [if_pos h2, if_pos ⟨h2.1, by omega⟩]
    · rw [if_neg h2, if_neg (fun e => ?_)]
      have := e.1; have := e.2
      by_cases hck : c = k
      · exact h ⟨e.1, hck⟩
      · exact h2 ⟨e.1, by omega⟩
theorem scTo_all (M : Mx) (i : Nat) (y : UInt8) (n a c : Nat) (hc : c ≤ n) : scTo M i y (n + 1) a c = scaleR M i y a c := by
  unfold scTo scaleR
  by_cases h : a = i
  · rw [if_pos ⟨h, by omega⟩, if_pos h, h]
  · rw [if_neg (fun e => h e.1), if_neg h]
theorem elTo_all (M : Mx) (i m a c : Nat) (ha : a < m) : elTo M i m a c = elimR M i a c := by
  unfold elTo elimR
  by_cases h : a = i
  · rw [if_neg (fun e => e.2 h), if_pos h]
  · rw [if_pos ⟨ha, h⟩, if_neg h]
theorem elTo_skip (M : Mx) (i j a c : Nat) (h : j = i ∨ M j i = 0) : elTo M i j a c = elTo M i (j + 1) a c := by
  unfold elTo
  by_cases ha : a = j
  · subst ha
    rw [if_neg (fun e => absurd e.1 (by omega))]
    by_cases hi : a = i
    · rw [if_neg (fun e => e.2 hi)]
    · rw [if_pos ⟨by omega, hi⟩]
      rcases h with h | h
      · exact absurd h hi
      · rw [h]
        have : F.mulB 0 (M i c) = 0 := congrArg F.byte (F.zero_mul (F.mk (M i c)))
        rw [this, UInt8.xor_zero]
  · by_cases h2 : a < j ∧ a ≠ i
    · rw [if_pos h2, if_pos ⟨by omega, h2.2⟩]
    · rw [if_neg h2, if_neg (fun e => h2 ⟨by have := e.1; omega, e.2⟩)]
theorem elIn_step (M : Mx) (i j k a c : Nat) : updR (elIn M i j k) j k (M j k ^^^ F.mulB (M j i) (M i k)) a c = elIn M i j (k + 1) a c := by
  unfold updR elIn
  by_cases h : a = j ∧ c = k
  · obtain ⟨rfl, rfl⟩ := h
    rw [if_pos ⟨rfl, rfl⟩, if_pos ⟨rfl, by omega⟩]
  · rw [if_neg h]
    by_cases h2 : a = j ∧ c < k
    · rw [if_pos h2, if_pos ⟨h2.1, by omega⟩]
    · rw [if_neg h2, if_neg (fun e => ?_)]
      have := e.1; have := e.2
      by_cases hck : c = k
      · exact h ⟨e.1, hck⟩
      · exact h2 ⟨e.1, by omega⟩
theorem elIn_start (M : Mx) (i j a c : Nat) : elTo M i j a c = elIn M i j 0 a c := by
  unfold elIn
  rw [if_neg (fun e => absurd e.2 (by omega))]
theorem elIn_all (M : Mx) (i j n a c : Nat) (hji : j ≠ i) (hc : c ≤ n) : elIn M i j (n + 1) a c = elTo M i (j + 1) a c := by
  unfold elIn elTo
  by_cases ha : a = j
  · subst ha
    rw [if_pos ⟨rfl, by omega⟩, if_pos ⟨by omega, hji⟩]
  · rw [if_neg (fun e => ha e.1)]
    by_cases h2 : a < j ∧ a ≠ i
    · rw [if_pos h2, if_pos ⟨by omega, h2.2⟩]
    · rw [if_neg h2, if_neg (fun e => h2 ⟨by have := e.1; omega, e.2⟩)]
theorem elTo_self (M : Mx) (i j c : Nat) : elTo M i j j c = M j c := if_neg (fun e => absurd e.1 (by omega))
theorem elTo_piv (M : Mx) (i j c : Nat) : elTo M i j i c = M i c := if_neg (fun e => e.2 rfl)
theorem elIn_self (M : Mx) (i j k : Nat) : elIn M i j k j k = M j k := by
  unfold elIn
  rw [if_neg (fun e => absurd e.2 (by omega))]; exact elTo_self M i j k
theorem elIn_piv (M : Mx) (i j k c : Nat) (h : j ≠ i) : elIn M i j k i c = M i c := by
  unfold elIn
  rw [if_neg (fun e => h e.1.symm)]; exact elTo_piv M i j c
theorem scTo_self (M : Mx) (i : Nat) (y : UInt8) (k : Nat) : scTo M i y k i k = M i k := if_neg (fun e => absurd e.2 (by omega))
theorem rstill {a b r : UInt8} (h : Hid (F.mulB a b = r)) (w : World) : Calls Try.prog 60 #[.int .u8 a.toNat, .int .u8 b.toNat] w fun e w'' => e = .returned (.int .u8 r.toNat) ∧ w'' = w := by
  rw [← h.out]
  exact (rmul_any a b w).mono fun _ _ ⟨he, hm⟩ => ⟨he, hm.symm⟩
def GRel (w0 : World) (g B m n : Nat) (M : Mx) (i : Nat) (wr : World) : Prop := ∃ blk cap M', MatB wr g B m n blk cap M' ∧ GInv m n M M' i ∧ Below B w0 wr
def outTo (M : Mx) (n k : Nat) : List UInt8 := (List.range k).map fun a => M a n
theorem outTo_succ (M : Mx) (n k : Nat) : outTo M n (k + 1) = outTo M n k ++ [M k n] := by
  unfold outTo; rw [List.range_succ, List.map_append]; rfl
theorem outTo_len (M : Mx) (n k : Nat) : (outTo M n k).length = k := by unfold outTo; simp
theorem outTo_get (M : Mx) (n k a : Nat) (h : a < k) : (outTo M n k)[a]?.getD 0 = M a n := by
  unfold outTo
  rw [List.getElem?_map, List.getElem?_range h]; rfl
set_option maxRecDepth 100000 in
theorem gauss_none (cg : Nat) (w : World) : Calls Try.prog 61 #[.slice none 0 cg, .int .i64 0] w fun e w' => e = .returned (.tuple #[.slice none 0 0, .bool true]) ∧ w = w' := by
  go_enter Try.func61, Try.ntmps61
  go_wp2_with fail
  refine wp_loop_rounds 1 ?_
  rw [rounds_succ]
  go_wp2_with fail
  refine wp_loop_rounds 1 ?_
  rw [rounds_succ]
  go_wp2_with fail
  refine wp_loop_rounds 1 ?_
  rw [rounds_succ]
  go_wp2_with fail
  go_ret2
  exact ⟨rfl, rfl⟩
set_option maxRecDepth 100000 in
set_option maxHeartbeats 4000000 in
theorem gauss_any (m n g cg B : Nat) (blk cap : Nat → Nat) (M : Mx) (w : World) (hm : m ≤ 100) (hnm : n ≤ m) (hBw : B ≤ w.heap.size) (hM : MatB w g B m n blk cap M) :
    Calls Try.prog 61 #[.slice (some ⟨g, 0, none⟩) m cg, .int .i64 n] w fun e w' => Below B w w' ∧
      ((∃ v out, e = .returned (.tuple #[v, .bool true]) ∧ out.length = n ∧ Sl w' w.heap.size v out ∧ ∀ x, Sol m n M x → ∀ a, a < n → x a = F.mk (out[a]?.getD 0)) ∨ (e = .returned (.tuple #[.slice none 0 0, .bool false]) ∧ ¬ ∃ x, Uniq m n M x)) := by
  have HR0 : Hid (GRel w g B m n M 0 w) := ⟨blk, cap, M, hM, GInv.start m n M, Below.refl _ _⟩
  clear hM
  go_enter Try.func61, Try.ntmps61
  go_wp2_with fail
  go_loopw [6] (fun v6 wr => ∃ i : Nat, i ≤ n ∧ v6 = .int .i64 i ∧ Hid (GRel w g B m n M i wr)) (fun v6 _ => n - (intOf v6).toNat)
  case atStart => exact ⟨0, Nat.zero_le _, rfl, HR0⟩
  case round =>
    clear HR0
    obtain ⟨i, hi, rfl, HR⟩ := hrel
    obtain ⟨wo, rfl⟩ : ∃ wo : World, wo = wr := ⟨_, rfl⟩
    obtain ⟨blk, cap, M', hM, hG, hB⟩ := HR.out
    have HM := Lib.hid hM
    have HG := Lib.hid hG
    have HB := Lib.hid hB
    clear hM hG hB HR
    by_cases hlt : i < n
    · go_wp2_with fail
      go_loopw [7] (fun v7 wr => ∃ p : Nat, i ≤ p ∧ p ≤ m ∧ v7 = .int .i64 p ∧ wo = wr ∧ Hid (∀ a, i ≤ a → a < p → M' a i = 0)) (fun v7 _ => m - (intOf v7).toNat)
      case atStart => exact ⟨i, Nat.le_refl _, by omega, rfl, rfl, fun a h1 h2 => by omega⟩
      case round =>
        obtain ⟨p, hp1, hp2, rfl, rfl, HZ⟩ := hrel
        by_cases hpm : p < m
        · have hrow := HM.out.row p hpm
          have hel := HM.out.el p i hpm (by omega)
          obtain ⟨x, hx⟩ : ∃ x, M' p i = x := ⟨_, rfl⟩
          rw [hx] at hel
          have HX := Lib.hid hx
          clear hx
          by_cases hx0 : x = 0
          · subst hx0
            have hel0 : wo.cell? ⟨blk p, i, none⟩ = some (.int .u8 0) := hel
            clear hel
            go_wp2_with fail
            go_roundw
            case rel =>
              refine ⟨p + 1, by omega, by omega, by go_num, trivial, fun a h1 h2 => ?_⟩
              by_cases e : a = p
              · rw [e]; exact HX.out
              · exact HZ.out a h1 (by omega)
            case measure => simp [intOf] <;> omega
          · have hxb := u8z x hx0
            have hpm' : ¬ m ≤ p := by omega
            have him : i < m := by omega
            have hri := HM.out.row i him
            have hfi := HM.out.rfree i him
            have hmid : (wo.setCell ⟨g, i, none⟩ (.slice (some ⟨blk p, 0, none⟩) (n + 1) (cap p))).cell? ⟨g, p, none⟩ = some (.slice (some ⟨blk p, 0, none⟩) (n + 1) (cap p)) := HM.out.mid him hpm
            have hmidf : (wo.setCell ⟨g, i, none⟩ (.slice (some ⟨blk p, 0, none⟩) (n + 1) (cap p))).frozen? ⟨g, p, none⟩ = false := HM.out.midfree him hpm
            obtain ⟨w2, hw2⟩ : ∃ w2, (wo.setCell ⟨g, i, none⟩ (.slice (some ⟨blk p, 0, none⟩) (n + 1) (cap p))).setCell ⟨g, p, none⟩ (.slice (some ⟨blk i, 0, none⟩) (n + 1) (cap i)) = w2 := ⟨_, rfl⟩
            have hM2 : MatB w2 g B m n (swapN blk i p) (swapN cap i p) (swapR M' i p) := by rw [← hw2]; exact HM.out.swap him hpm
            have HB2 : Hid (Below B w w2) := by unfold Hid; rw [← hw2]; exact (HB.out.setCell HM.out.lowg _).setCell HM.out.lowg _
            have HG2 : Hid (GInv m n M (swapR M' i p) i) := HG.out.swap hp1 hpm
            have hx2 : swapR M' i p i i = x := by unfold swapR; rw [if_pos rfl]; exact HX.out
            obtain ⟨M2, hM2e⟩ : ∃ M2, swapR M' i p = M2 := ⟨_, rfl⟩
            obtain ⟨blk2, hblk2⟩ : ∃ b, swapN blk i p = b := ⟨_, rfl⟩
            obtain ⟨cap2, hcap2⟩ : ∃ c, swapN cap i p = c := ⟨_, rfl⟩
            rw [hM2e] at hM2 HG2 hx2
            rw [hblk2, hcap2] at hM2
            have HM2 := Lib.hid hM2
            have HX2 := Lib.hid hx2
            have hri2 := hM2.row i him
            have hel2 := hM2.el i i him (by omega)
            rw [hx2] at hel2
            clear hM2 hM2e hblk2 hcap2 hx2
            go_wp2_with fail
            refine (rinv_nz x hx0 _).mono ?_
            rintro e w3 ⟨rfl, rfl⟩
            obtain ⟨y, hy⟩ : ∃ y, F.invB x = y := ⟨_, rfl⟩
            have hy1 : F.mk x * F.mk y = 1 := by rw [← hy]; exact F.mul_inv (fun e => hx0 (congrArg F.byte e))
            have HY := Lib.hid hy1
            rw [hy]
            clear hy hy1 hri hfi hmid hmidf hw2 hri2 hel2 hrow hel hxb HX HZ HM HG HB
            go_wp2_with fail
            go_loopw [11] (fun v11 wr => ∃ k : Nat, k ≤ n + 1 ∧ v11 = .int .i64 k ∧ Hid (MatB wr g B m n blk2 cap2 (scTo M2 i y k) ∧ Below B w wr)) (fun v11 _ => n + 1 - (intOf v11).toNat)
            case atStart => exact ⟨0, Nat.zero_le _, rfl, HM2.out.congr (fun a c _ _ => (if_neg (fun e => absurd e.2 (by omega))).symm), HB2.out⟩
            case round =>
              clear HM2 HB2
              obtain ⟨k, hk, rfl, HS⟩ := hrel
              obtain ⟨ws, rfl⟩ : ∃ x : World, x = wr := ⟨_, rfl⟩
              by_cases hkn : k ≤ n
              · have hkI : (k : Int) < (n : Int) + 1 := by omega
                have hr3 := HS.out.1.row i him
                have he3 := HS.out.1.el i k him hkn
                have hf3 := HS.out.1.free i k him hkn
                rw [scTo_self] at he3
                have HST := Lib.hid (scTo_step M2 i y k)
                obtain ⟨z, hz⟩ : ∃ z, M2 i k = z := ⟨_, rfl⟩
                rw [hz] at he3 HST
                obtain ⟨s, hs⟩ : ∃ s, F.mulB z y = s := ⟨_, rfl⟩
                rw [hs] at HST
                have HSS := Lib.hid hs
                clear hz hs
                go_wp2_with fail
                go_still_tail 15, (by kernel_rfl)
                still_call (rstill HSS _)
                repeat still_step
                refine wpStill_nil ?_
                change wpList _ _ _ _ _ ws.drew
                go_wp2
                go_roundw
                case rel => exact ⟨k + 1, by omega, by go_num, ((HS.out.1.set him hkn s).congr (fun a c _ _ => HST.out a c)).drew, (HS.out.2.setCell (HS.out.1.low i him) _).drew⟩
                case measure => simp [intOf] <;> omega
              · have hkn' : k = n + 1 := by omega
                obtain ⟨M3, hM3⟩ : ∃ M3, scaleR M2 i y = M3 := ⟨_, rfl⟩
                have HG3 : Hid (GInv m n M M3 i) := by
                  unfold Hid; rw [← hM3]
                  exact HG2.out.scale him y (fun e => by have := HY.out; rw [e, F.mul_zero] at this; exact F.one_ne_zero this.symm)
                have HP3 : Hid (F.mk (M3 i i) = 1) := by
                  unfold Hid; rw [← hM3]
                  unfold scaleR
                  rw [if_pos rfl, HX2.out]; exact HY.out
                have HM3 : Hid (MatB ws g B m n blk2 cap2 M3) := by
                  unfold Hid; rw [← hM3]
                  have := HS.out.1
                  rw [hkn'] at this
                  exact this.congr (fun a c _ hc => scTo_all M2 i y n a c hc)
                have HB3 := Lib.hid HS.out.2
                clear hM3 HS HG2 HX2 HY hkn'
                go_wp2_with fail
                go_loopw [12] (fun v12 wr => ∃ j : Nat, j ≤ m ∧ v12 = .int .i64 j ∧ Hid (MatB wr g B m n blk2 cap2 (elTo M3 i j) ∧ Below B w wr)) (fun v12 _ => m - (intOf v12).toNat)
                case atStart => exact ⟨0, Nat.zero_le _, rfl, HM3.out.congr (fun a c _ _ => (if_neg (fun e => absurd e.1 (by omega))).symm), HB3.out⟩
                case round =>
                  clear HM3 HB3
                  obtain ⟨j, hj, rfl, HE⟩ := hrel
                  obtain ⟨we, rfl⟩ : ∃ x : World, x = wr := ⟨_, rfl⟩
                  by_cases hjm : j < m
                  · have hr4 := HE.out.1.row j hjm
                    have he4 := HE.out.1.el j i hjm (by omega)
                    rw [elTo_self] at he4
                    obtain ⟨c, hc⟩ : ∃ c, M3 j i = c := ⟨_, rfl⟩
                    rw [hc] at he4
                    have HCe := Lib.hid hc
                    clear hc
                    by_cases hskip : j = i ∨ c = 0
                    · have HE' : Hid (MatB we g B m n blk2 cap2 (elTo M3 i (j + 1)) ∧ Below B w we) := ⟨HE.out.1.congr (fun a d _ _ => elTo_skip M3 i j a d (hskip.imp id (fun e => HCe.out.trans e))), HE.out.2⟩
                      clear HE
                      by_cases hji : j = i
                      · subst hji
                        go_wp2_with fail
                        go_roundw
                        case rel => exact ⟨j + 1, by omega, by go_num, HE'.out⟩
                        case measure => simp [intOf] <;> omega
                      · have hc0 : c = 0 := hskip.resolve_left hji
                        subst hc0
                        have he40 : we.cell? ⟨blk2 j, i, none⟩ = some (.int .u8 0) := he4
                        have hjb : ((j : Int) == (i : Int)) = false := beq_eq_false_iff_ne.2 (by omega)
                        have hjn : (j == i) = false := beq_eq_false_iff_ne.2 hji
                        clear he4
                        go_wp2_with fail
                        go_roundw
                        case rel => exact ⟨j + 1, by omega, by go_num, HE'.out⟩
                        case measure => simp [intOf] <;> omega
                    · have hji : j ≠ i := fun e => hskip (Or.inl e)
                      have hcb := u8z c (fun e => hskip (Or.inr e))
                      have hjb : ((j : Int) == (i : Int)) = false := beq_eq_false_iff_ne.2 (by omega)
                      have hjn : (j == i) = false := beq_eq_false_iff_ne.2 hji
                      clear hskip
                      go_wp2_with fail
                      go_loopw [14] (fun v14 wr => ∃ k : Nat, k ≤ n + 1 ∧ v14 = .int .i64 k ∧ Hid (MatB wr g B m n blk2 cap2 (elIn M3 i j k) ∧ Below B w wr)) (fun v14 _ => n + 1 - (intOf v14).toNat)
                      case atStart => exact ⟨0, Nat.zero_le _, rfl, HE.out.1.congr (fun a d _ _ => elIn_start M3 i j a d), HE.out.2⟩
                      case round =>
                        clear HE hr4 he4
                        obtain ⟨q, hq, rfl, HI⟩ := hrel
                        obtain ⟨wi, rfl⟩ : ∃ x : World, x = wr := ⟨_, rfl⟩
                        by_cases hqn : q ≤ n
                        · have hqI : (q : Int) < (n : Int) + 1 := by omega
                          have hr5 := HI.out.1.row j hjm
                          have he5 := HI.out.1.el j q hjm hqn
                          have hf5 := HI.out.1.free j q hjm hqn
                          have hr6 := HI.out.1.row i him
                          have he6 := HI.out.1.el i q him hqn
                          rw [elIn_self] at he5
                          rw [elIn_piv M3 i j q q hji] at he6
                          have HST := Lib.hid (elIn_step M3 i j q)
                          obtain ⟨z, hz⟩ : ∃ z, M3 j q = z := ⟨_, rfl⟩
                          obtain ⟨u, hu⟩ : ∃ u, M3 i q = u := ⟨_, rfl⟩
                          rw [hz] at he5 HST
                          rw [hu] at he6 HST
                          rw [HCe.out] at HST
                          obtain ⟨t, ht⟩ : ∃ t, F.mulB c u = t := ⟨_, rfl⟩
                          rw [ht] at HST
                          obtain ⟨s, hs⟩ : ∃ s, z ^^^ t = s := ⟨_, rfl⟩
                          rw [hs] at HST
                          have HTT := Lib.hid ht
                          have hxs : bits .xor .u8 (z.toNat : Int) (t.toNat : Int) = (s.toNat : Int) := by rw [u8_xor_nat _ _ z.toNat_lt t.toNat_lt, ← hs, UInt8.toNat_xor]
                          clear hz hu ht hs
                          go_wp2_with fail
                          go_still_tail 23, (by kernel_rfl)
                          still_call (rstill HTT _)
                          repeat still_step
                          refine wpStill_nil ?_
                          change wpList _ _ _ _ _ wi.drew
                          go_wp2
                          go_roundw
                          case rel => exact ⟨q + 1, by omega, by go_num, ((HI.out.1.set hjm hqn s).congr (fun a d _ _ => HST.out a d)).drew, (HI.out.2.setCell (HI.out.1.low j hjm) _).drew⟩
                          case measure => simp [intOf] <;> omega
                        · have hqe : q = n + 1 := by omega
                          have HE' : Hid (MatB wi g B m n blk2 cap2 (elTo M3 i (j + 1)) ∧ Below B w wi) := by
                            have := HI.out
                            rw [hqe] at this
                            exact ⟨this.1.congr (fun a d _ hd => elIn_all M3 i j n a d hji hd), this.2⟩
                          clear HI hqe
                          go_wp2_with fail
                          go_roundw
                          case rel => exact ⟨j + 1, by omega, by go_num, HE'.out⟩
                          case measure => simp [intOf] <;> omega
                  · have hje : j = m := by omega
                    have HR' : Hid (GRel w g B m n M (i + 1) we) := by
                      have := HE.out
                      rw [hje] at this
                      exact ⟨blk2, cap2, elimR M3 i, this.1.congr (fun a c ha _ => elTo_all M3 i m a c ha), HG3.out.elim him HP3.out, this.2⟩
                    clear HE hje HG3 HP3
                    go_wp2_with fail
                    go_roundw
                    case rel => exact ⟨i + 1, by omega, by go_num, HR'.out⟩
                    case measure => simp [intOf] <;> omega
        · have hpe : p = m := by omega
          have HNO : Hid (¬ ∃ x, Uniq m n M x) := HG.out.none hlt (fun a h1 h2 => HZ.out a h1 (by omega))
          have hpm2 : m ≤ p := by omega
          go_wp2_with fail
          go_ret2
          exact ⟨HB.out, Or.inr ⟨rfl, HNO.out⟩⟩
    · have hin : i = n := by omega
      rw [hin] at HG
      have hBsz : w.heap.size ≤ wo.heap.size := HB.out.size
      have hni : n ≤ i := by omega
      clear hin
      go_wp2_with fail
      go_loopw [15, 16] (fun v15 v16 wr => ∃ k : Nat, k ≤ n ∧ v16 = .int .i64 k ∧ Hid (wr.ownsRow wo.heap.size 5 1 v15 k ((outTo M' n k).map u8v) ∧ Below wo.heap.size wo wr)) (fun _ v16 _ => n - (intOf v16).toNat)
      case atStart => exact ⟨0, Nat.zero_le _, rfl, World.ownsRow_nil _ _ _ _, Below.refl _ _⟩
      case round =>
        obtain ⟨k, hk, rfl, HO⟩ := hrel
        obtain ⟨wk, rfl⟩ : ∃ x : World, x = wr := ⟨_, rfl⟩
        by_cases hkn : k < n
        · have hMk := HM.out.kept HO.out.2
          have hrk := hMk.row k (by omega)
          have hek := hMk.el k n (by omega) (Nat.le_refl _)
          have HST := Lib.hid (outTo_succ M' n k)
          have HLn := Lib.hid (outTo_len M' n k)
          obtain ⟨z, hz⟩ : ∃ z, M' k n = z := ⟨_, rfl⟩
          rw [hz] at hek HST
          have hsz : wo.heap.size ≤ wk.heap.size := HO.out.2.size
          clear hMk hz
          go_wp2_with (at_builtin; refine wpList_append_bytes rfl _ _ 33 5 rfl Try.underlying33 Try.infoU8 wo.heap.size u15 (outTo M' n k) rfl (by rw [HLn.out]; exact HO.out.1.alloc _) (by simp; omega) wk.heap.size 1 1 [z] rfl rfl (cells_one wk z _) (by rw [HLn.out]; simp; omega) ?_; intro v' w4 hown hgr)
          have HO' : Hid (w4.ownsRow wo.heap.size 5 1 v' (k + 1) ((outTo M' n (k + 1)).map u8v) ∧ Below wo.heap.size wo w4) := by
            refine ⟨?_, (HO.out.2.alloc hsz _).grown hgr (by simp; omega) (fun j hj => (HO.out.1.lt j hj).1)⟩
            rw [HST.out]
            have := hown
            rw [List.length_append, HLn.out] at this
            exact this
          clear hown hgr
          go_roundw
          case rel => exact ⟨k + 1, by omega, by go_num, HO'.out⟩
          case measure => simp [intOf] <;> omega
        · have hke : k = n := by omega
          have HO2 := HO.out
          rw [hke] at HO2
          have HMk := Lib.hid (HM.out.kept HO2.2)
          have HSl : Hid (Sl wk wo.heap.size u15 (outTo M' n n)) := sl_of_owns (e := 5) (by rw [outTo_len]; exact HO2.1)
          have HB5 : Hid (Below B w wk) := HB.out.trans (HO2.2.mono (Nat.le_trans hBw hBsz))
          have hnk : n ≤ k := by omega
          clear HO2 HO
          go_wp2_with fail
          go_loopw [17] (fun v17 wr => ∃ a : Nat, n ≤ a ∧ a ≤ m ∧ v17 = .int .i64 a ∧ wk = wr) (fun v17 _ => m - (intOf v17).toNat)
          case atStart => exact ⟨n, Nat.le_refl _, hnm, rfl, rfl⟩
          case round =>
            obtain ⟨a, ha1, ha2, rfl, rfl⟩ := hrel
            by_cases ham : a < m
            · have hra := HMk.out.row a ham
              have hea := HMk.out.el a n ham (Nat.le_refl _)
              obtain ⟨z, hz⟩ : ∃ z, M' a n = z := ⟨_, rfl⟩
              rw [hz] at hea
              by_cases hz0 : z = 0
              · subst hz0
                have hea0 : wk.cell? ⟨blk a, n, none⟩ = some (.int .u8 0) := hea
                clear hea hz
                go_wp2_with fail
                go_roundw
                case rel => exact ⟨a + 1, by omega, by omega, by go_num, trivial⟩
                case measure => simp [intOf] <;> omega
              · have hzb := u8z z hz0
                have HNO : Hid (¬ ∃ x, Uniq m n M x) := fun ⟨x, hx, _⟩ => hz0 (hz.symm.trans ((HG.out.last hx).2 a ha1 ham))
                clear hz
                go_wp2_with fail
                go_ret2
                exact ⟨HB5.out, Or.inr ⟨rfl, HNO.out⟩⟩
            · have ham' : m ≤ a := by omega
              go_wp2_with fail
              go_ret2
              refine ⟨HB5.out, Or.inl ⟨_, outTo M' n n, rfl, outTo_len M' n n, HSl.out.mono hBsz, fun x hx b hb => ?_⟩⟩
              rw [outTo_get M' n n b hb]
              exact (HG.out.last hx).1 b hb (by omega)
end Go.Proofs.Ytamkahjdedomlaa
