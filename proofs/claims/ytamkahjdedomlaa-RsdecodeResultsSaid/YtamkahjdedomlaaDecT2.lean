/-
  The locator's roots are the places alone; Forney's values; the word that comes out. No program in sight.
-/
import Derived.Test.YtamkahjdedomlaaDecT
namespace Go.Proofs.Ytamkahjdedomlaa
set_option linter.unusedVariables false
open F (sumN pow inv)

theorem even_sum (t : Nat → F) (D : Nat) : sumN D (fun m => if m % 2 = 0 then t (m + 1) + t m else 0) = sumN D t + (if D % 2 = 1 then t D else 0) := by
  induction D with
  | zero => exact (F.add_zero _).symm
  | succ D ih =>
    show sumN D _ + (if D % 2 = 0 then t (D + 1) + t D else 0) = (sumN D t + t D) + _
    rw [ih]
    by_cases c : D % 2 = 0
    · rw [if_pos c, if_neg (by omega), if_pos (by omega), F.add_zero]; ac_rfl
    · rw [if_neg c, if_pos (by omega), if_neg (by omega), F.add_zero]

section
variable {W C : List UInt8} {n p : Nat} {lost : List Int} {errs : List Nat} (H : Scene W C n p lost errs)
include H

/-- The places that are erased or wrong. -/
theorem Scene.places : ∃ R : List Nat, R.Nodup ∧ R.length = lost.length + errs.length ∧ (∀ i ∈ R, i < n) ∧ (∀ i ∈ R, (i : Int) ∈ lost ∨ i ∈ errs) ∧ (∀ i : Nat, (i : Int) ∈ lost → i ∈ R) ∧ ∀ i, i ∈ errs → i ∈ R := by
  refine ⟨lost.map Int.toNat ++ errs, ?_, by rw [List.length_append, List.length_map], fun i hi => ?_, fun i hi => ?_, fun i hi => ?_, fun i hi => List.mem_append_right _ hi⟩
  · rw [List.nodup_append]
    refine ⟨?_, H.end_, fun a ha b hb e => ?_⟩
    · rw [List.nodup_iff_pairwise_ne, List.pairwise_map]
      refine List.Pairwise.imp_of_mem ?_ (List.nodup_iff_pairwise_ne.1 H.lnd)
      intro x y hx hy hne e
      have := (H.lin x hx).1
      have := (H.lin y hy).1
      exact hne (by omega)
    · obtain ⟨x, hx, rfl⟩ := List.mem_map.1 ha
      have := (H.lin x hx).1
      exact (H.ein b hb).2 (by rw [← e, Int.toNat_of_nonneg this]; exact hx)
  · rcases List.mem_append.1 hi with h | h
    · obtain ⟨x, hx, rfl⟩ := List.mem_map.1 h
      have := H.lin x hx
      unfold inR at this
      omega
    · exact (H.ein i h).1
  · rcases List.mem_append.1 hi with h | h
    · obtain ⟨x, hx, rfl⟩ := List.mem_map.1 h
      have := (H.lin x hx).1
      rw [Int.toNat_of_nonneg this]; exact Or.inl hx
    · exact Or.inr h
  · exact List.mem_append_left _ (List.mem_map.2 ⟨_, hi, Int.toNat_natCast i⟩)

end
structure Loc (W C : List UInt8) (n p : Nat) (lost : List Int) (errs : List Nat) (l : List UInt8) (R : List Nat) : Prop where
  sc : Scene W C n p lost errs
  hl : locB (synB W p) (erTo n lost lost.length) = l
  nd : R.Nodup
  len : R.length = lost.length + errs.length
  lt : ∀ i ∈ R, i < n
  why : ∀ i ∈ R, (i : Int) ∈ lost ∨ i ∈ errs
  lostR : ∀ i : Nat, (i : Int) ∈ lost → i ∈ R
  errR : ∀ i, i ∈ errs → i ∈ R
  eNe : ∀ i ∈ errs, co W i ≠ co C i
theorem pts {n : Nat} (hn : n ≤ 255) (S : List Nat) (hS : S.Nodup) (hS3 : ∀ i ∈ S, i < n) : (S.map fun i => inv (elX n i)).Nodup := by
  rw [List.nodup_iff_pairwise_ne, List.pairwise_map]
  refine List.Pairwise.imp_of_mem ?_ (List.nodup_iff_pairwise_ne.1 hS)
  intro a b ha hb hne e
  refine hne (elX_inj hn (hS3 a ha) (hS3 b hb) ?_)
  have h1 := F.mul_inv (elX_ne n a)
  have h2 := F.mul_inv (elX_ne n b)
  rw [e, F.mul_comm] at h1
  rw [F.mul_comm] at h2
  exact F.mul_left_cancel (inv_ne_zero (elX_ne n b)) (h1.trans h2.symm)
theorem conv_first (f : Nat → F) (X : F) : conv f (pow X) 0 = f 0 := by
  show (0 : F) + f 0 * 1 = _
  rw [F.zero_add, F.mul_one]
theorem conv_pow_step (f : Nat → F) (X : F) (m : Nat) : f (m + 1) = conv f (pow X) (m + 1) + X * conv f (pow X) m := by
  have : conv f (pow X) (m + 1) = X * conv f (pow X) m + f (m + 1) := by
    show sumN (m + 1) (fun j => f j * pow X (m + 1 - j)) + f (m + 1) * pow X (m + 1 - (m + 1)) = _
    rw [Nat.sub_self]
    show _ + f (m + 1) * 1 = _
    rw [F.mul_one]
    congr 1
    unfold conv
    rw [← F.sumN_mul]
    refine F.sumN_congr fun j hj => ?_
    rw [show m + 1 - j = m - j + 1 by omega]
    show _ * (pow _ _ * _) = _
    ac_rfl
  rw [this, F.add_comm (X * _) (f (m + 1)), F.add_assoc, F.add_self, F.add_zero]
theorem q_val (l : List UInt8) (D : Nat) (X y : F) : evN (co l) D y = sumN (D + 1) (fun m => conv (co l) (pow X) m * pow y m) + X * y * sumN D (fun m => conv (co l) (pow X) m * pow y m) := by
  unfold evN
  rw [F.sumN_left, F.sumN_left, conv_first, ← F.sumN_mul, F.add_assoc, ← F.sumN_add]
  congr 1
  refine F.sumN_congr fun m _ => ?_
  rw [conv_pow_step (co l) X m, F.add_mul]
  congr 1
  show X * _ * (pow y m * y) = _
  ac_rfl
section
variable {W C : List UInt8} {n p : Nat} {lost : List Int} {errs : List Nat} {l : List UInt8} {R : List Nat} (H : Loc W C n p lost errs l R)
include H
theorem Loc.root (i : Nat) (h : i ∈ R) : evN (co l) R.length (inv (elX n i)) = 0 := by
  rw [← H.hl, H.len]
  rcases H.why i h with h1 | h1
  · exact H.sc.loc.2.2.1 i (H.lt i h) h1
  · exact H.sc.loc.2.2.2 i (H.lt i h) (H.eNe i h1)
theorem Loc.l0 : co l 0 = 1 := by rw [← H.hl]; exact H.sc.loc.1
theorem Loc.ldeg (k : Nat) (hk : R.length < k) : co l k = 0 := by
  refine co_out _ _ ?_
  have := H.sc.loc.2.1
  have h2 := H.len
  rw [H.hl] at this
  omega
theorem Loc.other (i : Nat) (hi : i < n) (h : i ∉ R) : evN (co l) R.length (inv (elX n i)) ≠ 0 := by
  intro h0
  have h1 := roots_all R.length (co l) (fun k hk => H.ldeg k hk) ((i :: R).map fun i => inv (elX n i)) (pts H.sc.n255 (i :: R) (List.nodup_cons.2 ⟨h, H.nd⟩) (fun j hj => by
    rcases List.mem_cons.1 hj with e | e
    · rw [e]; exact hi
    · exact H.lt j e)) (by simp) (fun x hx => by
    obtain ⟨j, hj, rfl⟩ := List.mem_map.1 hx
    rcases List.mem_cons.1 hj with e | e
    · rw [e]; exact h0
    · exact H.root j e) 0
  rw [H.l0] at h1
  exact F.one_ne_zero h1
theorem Loc.llen : l.length = R.length + 1 := by
  have hle : l.length ≤ R.length + 1 := by
    have := H.sc.loc.2.1
    have h2 := H.len
    rw [H.hl] at this
    omega
  have hpos : l.length ≠ 0 := by
    intro e
    have : l = [] := List.eq_nil_of_length_eq_zero e
    have h0 := H.l0
    rw [this] at h0
    exact F.one_ne_zero (h0.symm.trans (co_out _ _ (by simp)))
  by_cases c : l.length = R.length + 1
  · exact c
  · exfalso
    have hdeg : ∀ k, l.length - 1 < k → co l k = 0 := fun k hk => co_out _ _ (by omega)
    have h1 := roots_all (l.length - 1) (co l) hdeg (R.map fun i => inv (elX n i)) (pts H.sc.n255 R H.nd H.lt) (by rw [List.length_map]; omega) (fun x hx => by
      obtain ⟨j, hj, rfl⟩ := List.mem_map.1 hx
      have := H.root j hj
      rwa [evN_more hdeg (by omega)] at this) 0
    rw [H.l0] at h1
    exact F.one_ne_zero h1

/-! Forney. -/
theorem Loc.q_top (i : Nat) (h : i ∈ R) (m : Nat) (hm : R.length ≤ m) : conv (co l) (pow (elX n i)) m = 0 := by
  rw [geo (elX_ne n i) (fun k hk => H.ldeg k hk) m hm, H.root i h, F.mul_zero]
theorem Loc.q_fac (i : Nat) (h : i ∈ R) (y : F) : evN (co l) R.length y = (1 + elX n i * y) * sumN R.length (fun m => conv (co l) (pow (elX n i)) m * pow y m) := by
  rw [q_val l R.length (elX n i) y]
  show (sumN R.length _ + conv (co l) (pow (elX n i)) R.length * pow y R.length) + _ = _
  rw [H.q_top i h R.length (Nat.le_refl _), F.zero_mul, F.add_zero, F.add_mul, F.one_mul]
theorem Loc.q_other (i j : Nat) (hi : i ∈ R) (hj : j ∈ R) (hne : i ≠ j) : sumN R.length (fun m => conv (co l) (pow (elX n i)) m * pow (inv (elX n j)) m) = 0 := by
  have h1 := H.q_fac i hi (inv (elX n j))
  rw [H.root j hj] at h1
  rcases F.mul_eq_zero.1 h1.symm with h | h
  · exfalso
    have h2 := F.add_eq_zero.1 h
    have h3 := F.mul_inv (elX_ne n j)
    rw [h2, F.mul_comm, F.mul_comm (elX n i)] at h3
    exact hne (elX_inj H.sc.n255 (H.lt i hi) (H.lt j hj) (F.mul_left_cancel (inv_ne_zero (elX_ne n j)) h3).symm)
  · exact h
theorem Loc.q_self (i : Nat) (hi : i ∈ R) : sumN R.length (fun m => conv (co l) (pow (elX n i)) m * pow (inv (elX n i)) m) ≠ 0 := by
  intro h0
  have hpos : 1 ≤ R.length := by
    cases R with
    | nil => cases hi
    | cons a b => simp
  have hall : ∀ j ∈ R, sumN R.length (fun m => conv (co l) (pow (elX n i)) m * pow (inv (elX n j)) m) = 0 := by
    intro j hj
    by_cases c : i = j
    · subst c; exact h0
    · exact H.q_other i j hi hj c
  have h1 := roots_all (R.length - 1) (conv (co l) (pow (elX n i))) (fun k hk => H.q_top i hi k (by omega)) (R.map fun i => inv (elX n i)) (pts H.sc.n255 R H.nd H.lt) (by rw [List.length_map]; omega) (fun x hx => by
    obtain ⟨j, hj, rfl⟩ := List.mem_map.1 hx
    have := hall j hj
    unfold evN
    rw [show R.length - 1 + 1 = R.length by omega]; exact this) 0
  rw [conv_first, H.l0] at h1
  exact F.one_ne_zero h1
theorem Loc.slope (i : Nat) (hi : i ∈ R) : F.mk (evB (pderiv l) (xAt n i)) = elX n i * sumN R.length (fun m => conv (co l) (pow (elX n i)) m * pow (inv (elX n i)) m) := by
  have hll := H.llen
  have hdl : (pderiv l).length ≤ R.length := Nat.le_trans (trim_le _) (by rw [derL_len]; omega)
  rw [ev_sum _ _ _ hdl, mk_xAt n i H.sc.n255 (H.lt i hi)]
  have hX := F.mul_inv (elX_ne n i)
  obtain ⟨t, ht⟩ : ∃ t : Nat → F, t = fun m => conv (co l) (pow (elX n i)) m * pow (inv (elX n i)) m := ⟨_, rfl⟩
  have hq := conv_pow_step (co l) (elX n i)
  have h1 : ∀ m, m < R.length → co (pderiv l) m * pow (inv (elX n i)) m = elX n i * (if m % 2 = 0 then t (m + 1) + t m else 0) := by
    intro m _
    rw [co_pderiv]
    by_cases c : m % 2 = 0
    · rw [if_pos c, if_pos c, hq m, F.add_mul, F.mul_add, ht]
      congr 1
      · show _ = elX n i * (_ * (pow (inv (elX n i)) m * inv (elX n i)))
        rw [show elX n i * (conv (co l) (pow (elX n i)) (m + 1) * (pow (inv (elX n i)) m * inv (elX n i))) = conv (co l) (pow (elX n i)) (m + 1) * pow (inv (elX n i)) m * (elX n i * inv (elX n i)) by ac_rfl, hX, F.mul_one]
      · show _ = elX n i * (_ * _)
        ac_rfl
    · rw [if_neg c, if_neg c, F.zero_mul, F.mul_zero]
  rw [F.sumN_congr h1, F.sumN_mul, even_sum]
  have h2 : t R.length = 0 := by
    rw [ht]
    show conv (co l) (pow (elX n i)) R.length * _ = 0
    rw [H.q_top i hi R.length (Nat.le_refl _), F.zero_mul]
  rw [h2]
  have h3 : (if R.length % 2 = 1 then (0 : F) else 0) = 0 := by split <;> rfl
  rw [h3, F.add_zero, ht]
theorem Loc.omega_val (j : Nat) (hj : j ∈ R) : F.mk (evB ((pmul (synB W p) l).take p) (xAt n j)) = (co W j + co C j) * sumN R.length (fun m => conv (co l) (pow (elX n j)) m * pow (inv (elX n j)) m) := by
  have hrad := H.sc.rad
  have hlen := H.len
  rw [ev_sum _ _ p (by rw [List.length_take]; omega), mk_xAt n j H.sc.n255 (H.lt j hj)]
  have h1 : ∀ m, m < p → co ((pmul (synB W p) l).take p) m * pow (inv (elX n j)) m = sumN n (fun i => (co W i + co C i) * (conv (co l) (pow (elX n i)) m * pow (inv (elX n j)) m)) := by
    intro m hm
    rw [co_take, if_pos hm, co_pmul, conv_comm, H.sc.conv_syn _ m hm, ← F.sumN_mul_right]
    refine F.sumN_congr fun i _ => ?_
    rw [F.mul_assoc]
  rw [F.sumN_congr h1, F.sumN_swap]
  have h2 : ∀ i, i < n → sumN p (fun m => (co W i + co C i) * (conv (co l) (pow (elX n i)) m * pow (inv (elX n j)) m)) = (co W i + co C i) * sumN p (fun m => conv (co l) (pow (elX n i)) m * pow (inv (elX n j)) m) := fun i _ => F.sumN_mul _ _ _
  rw [F.sumN_congr h2]
  have hcut : ∀ i, i ∈ R → sumN p (fun m => conv (co l) (pow (elX n i)) m * pow (inv (elX n j)) m) = sumN R.length (fun m => conv (co l) (pow (elX n i)) m * pow (inv (elX n j)) m) := by
    intro i hi
    exact F.sumN_more (by omega) fun m a _ => by rw [H.q_top i hi m a, F.zero_mul]
  rw [F.sumN_single j (H.lt j hj) (fun i hi hne => ?_), hcut j hj]
  by_cases c : co W i = co C i
  · rw [c, F.add_self, F.zero_mul]
  · have hiR : i ∈ R := by
      rcases H.sc.all i hi c with h | h
      · by_cases hh : i ∈ R
        · exact hh
        · exfalso
          have := H.other i hi hh
          rw [← H.hl, H.len] at this
          exact this (H.sc.loc.2.2.1 i hi h)
      · exact H.errR i h
    rw [hcut i hiR, H.q_other i j hiR hj hne, F.mul_zero]
theorem Loc.forney_val (j : Nat) (hj : j ∈ R) : F.mk (forney ((pmul (synB W p) l).take p) (pderiv l) n j) = co W j + co C j := by
  show F.mk (F.expB (n - 1 - j)) * F.mk (evB ((pmul (synB W p) l).take p) (xAt n j)) * inv (F.mk (evB (pderiv l) (xAt n j))) = _
  rw [H.omega_val j hj, H.slope j hj]
  obtain ⟨q, hq⟩ : ∃ q, sumN R.length (fun m => conv (co l) (pow (elX n j)) m * pow (inv (elX n j)) m) = q := ⟨_, rfl⟩
  have hq0 := H.q_self j hj
  rw [hq] at hq0 ⊢
  show elX n j * ((co W j + co C j) * q) * inv (elX n j * q) = _
  rw [show elX n j * ((co W j + co C j) * q) * inv (elX n j * q) = (co W j + co C j) * (elX n j * q * inv (elX n j * q)) by ac_rfl, F.mul_inv (F.mul_ne_zero (elX_ne n j) hq0), F.mul_one]
end
end Go.Proofs.Ytamkahjdedomlaa
