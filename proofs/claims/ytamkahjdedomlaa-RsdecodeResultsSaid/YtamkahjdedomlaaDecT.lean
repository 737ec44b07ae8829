/-
  A word with errors and erasures within the radius is decoded to the code word. No program in sight.
-/
import Derived.Test.YtamkahjdedomlaaBmT
import Derived.Test.YtamkahjdedomlaaDecDef
import Derived.Test.YtamkahjdedomlaaDecPlain
namespace Go.Proofs.Ytamkahjdedomlaa
set_option linter.unusedVariables false
open F (sumN pow inv)

/-- The element of the place i. -/
def elX (n i : Nat) : F := F.exp (n - 1 - i)
theorem elX_ne (n i : Nat) : elX n i ≠ 0 := F.exp_ne_zero _
theorem elX_inj {n i j : Nat} (hn : n ≤ 255) (hi : i < n) (hj : j < n) (h : elX n i = elX n j) : i = j := by
  have := F.exp_inj (by omega) (by omega) h
  omega
theorem mk_xAt (n i : Nat) (hn : n ≤ 255) (hi : i < n) : F.mk (xAt n i) = inv (elX n i) := by
  refine F.inv_unique ?_
  have h := F.exp_red_add ((n : Int) - 1 - i) (-((n : Int) - 1 - i))
  rw [show (n : Int) - 1 - i + -((n : Int) - 1 - i) = 0 by omega] at h
  have hr : F.red ((n : Int) - 1 - i) = n - 1 - i := by unfold F.red; omega
  rw [hr] at h
  have h0 : F.expB (F.red 0) = 1 := rfl
  rw [h0] at h
  exact h.symm
theorem co_rev (l : List UInt8) (j : Nat) (h : j < l.length) : co l.reverse j = co l (l.length - 1 - j) := by
  unfold co; rw [List.getElem?_reverse h]
theorem ev_sum (l : List UInt8) (x : UInt8) (D : Nat) (hD : l.length ≤ D) : F.mk (evB l x) = sumN D (fun j => co l j * pow (F.mk x) j) := by
  unfold evB
  rw [horn_eq, List.length_reverse, F.sumN_more hD (fun i h1 _ => by rw [co_out l i h1, F.zero_mul]), F.sumN_rev]
  refine F.sumN_congr fun i hi => ?_
  rw [co_rev l _ (by omega), show l.length - 1 - (l.length - 1 - i) = i by omega]
theorem ev_evN (l : List UInt8) (x : UInt8) (D : Nat) (hD : l.length ≤ D + 1) : F.mk (evB l x) = evN (co l) D (F.mk x) := ev_sum l x (D + 1) hD

/-! The product over places. -/
theorem evN_lin (e : UInt8) (y : F) : evN (co [1, e]) 1 y = 1 + F.mk e * y := by
  show (0 : F) + co [1, e] 0 * pow y 0 + co [1, e] 1 * pow y 1 = _
  rw [F.zero_add, F.pow_one]
  show (1 : F) * 1 + F.mk e * y = _
  rw [F.mul_one]
theorem er_conv (n : Nat) (lost : List Int) (k m : Nat) : co (erTo n lost (k + 1)) m = conv (co (erTo n lost k)) (co [1, F.expB (n - 1 - (lost[k]?.getD 0).toNat)]) m := by
  show co (pmul _ _) m = _
  exact co_pmul _ _ _
theorem er_val (n : Nat) (lost : List Int) (k : Nat) {X : F} (hX : X ≠ 0) : evN (co (erTo n lost (k + 1))) (k + 1) (inv X) = evN (co (erTo n lost k)) k (inv X) * (1 + elX n (lost[k]?.getD 0).toNat * inv X) := by
  have h := evN_conv (f := co (erTo n lost k)) (g := co [1, F.expB (n - 1 - (lost[k]?.getD 0).toNat)]) (a := k) (b := 1) hX (er_top n lost k).1 (fun j hj => co_out _ _ (by simp; omega))
  rw [evN_lin] at h
  rw [show evN (co (erTo n lost (k + 1))) (k + 1) (inv X) = evN (conv (co (erTo n lost k)) (co [1, F.expB (n - 1 - (lost[k]?.getD 0).toNat)])) (k + 1) (inv X) from F.sumN_congr fun i _ => by rw [er_conv], h]
  rfl
theorem er_root (n : Nat) (lost : List Int) (k j : Nat) (hj : j < k) : evN (co (erTo n lost k)) k (inv (elX n (lost[j]?.getD 0).toNat)) = 0 := by
  induction k with
  | zero => omega
  | succ k ih =>
    rw [er_val _ _ _ (elX_ne _ _)]
    by_cases c : j = k
    · subst c; rw [F.mul_inv (elX_ne _ _), F.add_self, F.mul_zero]
    · rw [ih (by omega), F.zero_mul]

theorem lost_root (n : Nat) (lost : List Int) (i : Nat) (h : (i : Int) ∈ lost) : evN (co (erTo n lost lost.length)) lost.length (inv (elX n i)) = 0 := by
  obtain ⟨j, hj, e⟩ := List.mem_iff_getElem.1 h
  have := er_root n lost lost.length j hj
  rwa [List.getElem?_eq_getElem hj, e, Option.getD_some, Int.toNat_natCast] at this
theorem err_root (n : Nat) (errs : List Nat) (i : Nat) (h : i ∈ errs) : evN (co (erTo n (natI errs) errs.length)) errs.length (inv (elX n i)) = 0 := by
  have := lost_root n (natI errs) i (by unfold natI; exact List.mem_map.2 ⟨i, h, rfl⟩)
  rwa [show (natI errs).length = errs.length by unfold natI; exact List.length_map _] at this

/-! The setting. -/
structure Scene (W C : List UInt8) (n p : Nat) (lost : List Int) (errs : List Nat) : Prop where
  wl : W.length = n
  cl : C.length = n
  n255 : n ≤ 255
  cw : ∀ i, i < p → horn C (F.expB i) = 0
  lin : ∀ x ∈ lost, inR n x
  lnd : lost.Nodup
  ein : ∀ i ∈ errs, i < n ∧ (i : Int) ∉ lost
  end_ : errs.Nodup
  all : ∀ i, i < n → co W i ≠ co C i → (i : Int) ∈ lost ∨ i ∈ errs
  rad : 2 * errs.length + lost.length ≤ p

section
variable {W C : List UInt8} {n p : Nat} {lost : List Int} {errs : List Nat} (H : Scene W C n p lost errs)
include H

theorem Scene.synd (m : Nat) (hm : m < p) : co (synB W p) m = sumN n (fun i => (co W i + co C i) * pow (elX n i) m) := by
  rw [co_synB W p m hm]
  have h1 := horn_eq W (F.expB m)
  have h2 := horn_eq C (F.expB m)
  rw [H.cw m hm] at h2
  rw [H.wl] at h1
  rw [H.cl] at h2
  rw [h1]
  have h3 : sumN n (fun i => (co W i + co C i) * pow (elX n i) m) = sumN n (fun j => co W j * pow (F.mk (F.expB m)) (n - 1 - j)) + sumN n (fun j => co C j * pow (F.mk (F.expB m)) (n - 1 - j)) := by
    rw [← F.sumN_add]
    refine F.sumN_congr fun i _ => ?_
    have : pow (elX n i) m = pow (F.mk (F.expB m)) (n - 1 - i) := by
      show pow (pow F.gen _) m = pow (pow F.gen m) _
      rw [← F.pow_mul, ← F.pow_mul, Nat.mul_comm]
    rw [this, F.add_mul]
  rw [h3, ← h2]
  show _ = _ + (0 : F)
  rw [F.add_zero]
theorem Scene.conv_syn (f : Nat → F) (m : Nat) (hm : m < p) : conv f (co (synB W p)) m = sumN n (fun i => (co W i + co C i) * conv f (pow (elX n i)) m) := by
  rw [conv_congr m (fun _ _ => rfl) (fun k hk => H.synd k (by omega))]
  unfold conv
  have : ∀ j, j < m + 1 → f j * sumN n (fun i => (co W i + co C i) * pow (elX n i) (m - j)) = sumN n (fun i => (co W i + co C i) * (f j * pow (elX n i) (m - j))) := by
    intro j _
    rw [← F.sumN_mul]
    refine F.sumN_congr fun i _ => ?_
    ac_rfl
  rw [F.sumN_congr this, F.sumN_swap]
  exact F.sumN_congr fun i _ => F.sumN_mul _ _ _
theorem Scene.conv_val {f : Nat → F} {a : Nat} (hf : ∀ k, a < k → f k = 0) (m : Nat) (ha : a ≤ m) (hm : m < p) : conv f (co (synB W p)) m = sumN n (fun i => (co W i + co C i) * (pow (elX n i) m * evN f a (inv (elX n i)))) := by
  rw [H.conv_syn f m hm]
  exact F.sumN_congr fun i _ => by rw [geo (elX_ne n i) hf m ha]

theorem Scene.lam_zero (m : Nat) (h1 : lost.length + errs.length ≤ m) (h2 : m < p) : conv (co (erTo n (natI errs) errs.length)) (conv (co (erTo n lost lost.length)) (co (synB W p))) m = 0 := by
  rw [← conv_assoc, H.conv_val (conv_deg (er_top n (natI errs) errs.length).1 (er_top n lost lost.length).1) m (by omega) h2]
  refine F.sumN_zero fun i hi => ?_
  by_cases c : co W i = co C i
  · rw [c, F.add_self, F.zero_mul]
  · rw [evN_conv (elX_ne n i) (er_top n (natI errs) errs.length).1 (er_top n lost lost.length).1]
    rcases H.all i hi c with h | h
    · rw [lost_root n lost i h, F.mul_zero, F.mul_zero, F.mul_zero]
    · rw [err_root n errs i h, F.zero_mul, F.mul_zero, F.mul_zero]

/-- What the algorithm finds: unit at 0, of small degree, zero at the erasures and at the errors. -/
theorem Scene.loc : co (locB (synB W p) (erTo n lost lost.length)) 0 = 1 ∧ (locB (synB W p) (erTo n lost lost.length)).length ≤ lost.length + errs.length + 1 ∧
    (∀ i, i < n → (i : Int) ∈ lost → evN (co (locB (synB W p) (erTo n lost lost.length))) (lost.length + errs.length) (inv (elX n i)) = 0) ∧
    ∀ i, i < n → co W i ≠ co C i → evN (co (locB (synB W p) (erTo n lost lost.length))) (lost.length + errs.length) (inv (elX n i)) = 0 := by
  have hrad := H.rad
  obtain ⟨G, hG⟩ : ∃ G, co (erTo n lost lost.length) = G := ⟨_, rfl⟩
  obtain ⟨C1, P, hI⟩ := bm_all (Lam := co (erTo n (natI errs) errs.length)) (syn := synB W p) (er := erTo n lost lost.length) (s := lost.length) (e := errs.length) (p := p) (er_top n _ _).2.2 (er_top n _ _).1 (fun m h1 h2 => H.lam_zero m h1 h2) (p - lost.length) (by omega)
  have hel := er_len n lost lost.length
  have hlb : ∀ k, co (locB (synB W p) (erTo n lost lost.length)) k = conv G C1 k := by
    intro k
    unfold locB
    rw [co_trim, hel, synB_len, Nat.add_sub_cancel, hI.l k, hG]
  have hGdeg : ∀ k, lost.length < k → G k = 0 := by rw [← hG]; exact (er_top n lost lost.length).1
  have hG0 : G 0 = 1 := by rw [← hG]; exact (er_top n lost lost.length).2.2
  obtain ⟨L, hL⟩ : ∃ L, (bmTo (synB W p) (erTo n lost lost.length) lost.length (p - lost.length)).len = lost.length + L := ⟨_, (Nat.add_sub_cancel' hI.lo).symm⟩
  have hCdeg : ∀ k, L < k → C1 k = 0 := fun k hk => hI.cdeg k (by rw [hL]; omega)
  have hLe : L ≤ errs.length := by have := hI.le; omega
  have hdeg : ∀ k, lost.length + L < k → conv G C1 k = 0 := fun k hk => conv_deg hGdeg hCdeg k hk
  have hval0 : ∀ y, evN (co (locB (synB W p) (erTo n lost lost.length))) (lost.length + errs.length) y = evN (conv G C1) (lost.length + L) y := by
    intro y
    rw [show evN (co (locB (synB W p) (erTo n lost lost.length))) (lost.length + errs.length) y = evN (conv G C1) (lost.length + errs.length) y from F.sumN_congr fun i _ => by rw [hlb]]
    exact evN_more hdeg (by omega) y
  have hlost : ∀ i : Nat, (i : Int) ∈ lost → evN (conv G C1) (lost.length + L) (inv (elX n i)) = 0 := by
    intro i hi
    rw [evN_conv (elX_ne n i) hGdeg hCdeg, ← hG, lost_root n lost i hi, F.zero_mul]
  have hz : ∀ m, lost.length + L ≤ m → m < p → conv (conv G C1) (co (synB W p)) m = 0 := by
    intro m h1 h2
    have := hI.cz m (by rw [hL]; exact h1) (by omega)
    rw [hG] at this
    rw [conv_assoc, ← this, ← conv_assoc, ← conv_assoc]
    exact conv_congr m (fun k _ => conv_comm _ _ _) (fun _ _ => rfl)
  refine ⟨?_, ?_, fun i _ h => by rw [hval0]; exact hlost i h, fun i hi hne => ?_⟩
  · rw [hlb]
    have e : conv G C1 0 = G 0 * C1 0 := F.zero_add _
    rw [e, hG0, hI.c0, F.one_mul]
  · unfold locB
    refine trim_len_le _ _ fun i hi => ?_
    rw [hel, synB_len, Nat.add_sub_cancel, hI.l i, hG]
    exact hdeg i (by omega)
  · rw [hval0]
    have hw := F.vander n (elX n) errs (fun i hi => (H.ein i hi).1) (fun i hi j hj e => elX_inj H.n255 (H.ein i hi).1 (H.ein j hj).1 e)
      (fun i => (co W i + co C i) * (pow (elX n i) (lost.length + L) * evN (conv G C1) (lost.length + L) (inv (elX n i)))) (fun i hi hni => by
        by_cases c : co W i = co C i
        · show (co W i + co C i) * _ = 0; rw [c, F.add_self, F.zero_mul]
        · rcases H.all i hi c with h | h
          · show _ * (_ * _) = _; rw [hlost i h, F.mul_zero, F.mul_zero]
          · exact absurd h hni) H.end_ (fun j hj => by
        have h1 := hz (lost.length + L + j) (by omega) (by omega)
        rw [H.conv_val hdeg _ (by omega) (by omega)] at h1
        rw [← h1]
        refine F.sumN_congr fun i _ => ?_
        rw [F.pow_add (elX n i) (lost.length + L) j, F.mul_assoc]
        congr 1
        ac_rfl) i hi
    rcases F.mul_eq_zero.1 hw with h | h
    · exact absurd (F.add_eq_zero.1 h) hne
    · rcases F.mul_eq_zero.1 h with h | h
      · exact absurd h (F.pow_ne_zero (elX_ne n i) _)
      · exact h
end
end Go.Proofs.Ytamkahjdedomlaa
