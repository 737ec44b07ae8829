/-
  The reference's systems have one solution each where a code word lies within the radius. No program in sight.
  What the reference's Decode finds, and that it is what Decode finds. No program in sight.
  What each way out of the reference's Decode says of decB. No program in sight.
-/
import Derived.Test.YtamkahjdedomlaaR8EV
import Derived.Test.YtamkahjdedomlaaDecT3
namespace Go.Proofs.Ytamkahjdedomlaa
set_option linter.unusedVariables false
open F (sumN pow inv)

theorem co_modL (x : UInt8) (l : List UInt8) (m : Nat) (hm : m < l.length) : co (modL x l) m = co l m + (if m = 0 then 0 else co l (m - 1) * F.mk x) := by
  have h := modP_get x l 0 m hm
  rw [modP_all] at h
  show F.mk ((modL x l)[m]?.getD 0) = _
  rw [h]
  by_cases c : m = 0
  · rw [if_neg (by omega), if_pos c, F.add_zero]; rfl
  · rw [if_pos (by omega), if_neg c, F.mul_comm]; rfl
theorem co_modTo (n : Nat) (lost : List Int) (syn : List UInt8) (j : Nat) : ∀ m, m < syn.length → co (modTo n lost syn j) m = conv (co (erTo n lost j)) (co syn) m := by
  induction j with
  | zero =>
    intro m hm
    show co syn m = conv (co [1]) (co syn) m
    rw [conv_comm, conv_congr m (fun _ _ => rfl) (g' := fun k => if k = 0 then 1 else 0) (fun k _ => ?_), conv_unit]
    cases k with
    | zero => rfl
    | succ k => exact (co_out [1] (k + 1) (by simp)).trans (if_neg (by omega)).symm
  | succ j ih =>
    intro m hm
    show co (modL _ (modTo n lost syn j)) m = _
    rw [co_modL _ _ m (by rw [modTo_len]; exact hm), ih m hm]
    obtain ⟨E, hE⟩ : ∃ E, co (erTo n lost j) = E := ⟨_, rfl⟩
    have h1 : conv (co (erTo n lost (j + 1))) (co syn) m = conv (conv E (co syn)) (co [1, F.expB (n - 1 - (lost[j]?.getD 0).toNat)]) m := by
      rw [conv_congr m (f' := conv E (co [1, F.expB (n - 1 - (lost[j]?.getD 0).toNat)])) (fun k _ => by rw [er_conv, hE]) (fun _ _ => rfl)]
      rw [conv_congr m (f' := conv (co [1, F.expB (n - 1 - (lost[j]?.getD 0).toNat)]) E) (fun k _ => conv_comm _ _ _) (fun _ _ => rfl), conv_assoc, conv_comm]
    rw [h1, conv_lin, hE]
    by_cases c : m = 0
    · rw [if_pos c, if_pos c]
    · rw [if_neg c, if_neg c, ih (m - 1) (by omega), hE]
theorem one_add_ne {a X : F} (hX : X ≠ 0) (h : a ≠ X) : 1 + a * inv X ≠ 0 := by
  intro e
  have h1 : (1 : F) = a * inv X := F.add_eq_zero.1 e
  refine h ?_
  have h2 : X * 1 = X * (a * inv X) := by rw [← h1]
  rw [F.mul_one, F.mul_comm a, ← F.mul_assoc, F.mul_inv hX, F.one_mul] at h2
  exact h2.symm
theorem er_nonroot (n : Nat) (l : List Int) (k i : Nat) (h : ∀ j, j < k → elX n (l[j]?.getD 0).toNat ≠ elX n i) : evN (co (erTo n l k)) k (inv (elX n i)) ≠ 0 := by
  induction k with
  | zero =>
    show (0 : F) + co [1] 0 * pow _ 0 ≠ 0
    rw [F.zero_add]
    exact fun e => F.one_ne_zero (by rw [← e]; exact (F.mul_one _).symm)
  | succ k ih =>
    rw [er_val _ _ _ (elX_ne _ _)]
    exact F.mul_ne_zero (ih fun j hj => h j (by omega)) (one_add_ne (elX_ne _ _) (h k (by omega)))
theorem natI_get (l : List Nat) (j : Nat) (h : j < l.length) : (natI l)[j]?.getD 0 = (l[j] : Int) := by
  unfold natI; rw [List.getElem?_map, List.getElem?_eq_getElem h]; rfl

section
variable {W C : List UInt8} {n p : Nat} {lost : List Int} {errs : List Nat} (H : Scene W C n p lost errs)
include H
theorem Scene.lost_val (i : Nat) (hi : i < n) (h : (i : Int) ∉ lost) : evN (co (erTo n lost lost.length)) lost.length (inv (elX n i)) ≠ 0 := by
  refine er_nonroot n lost lost.length i fun j hj e => h ?_
  have hx : lost[j] ∈ lost := List.getElem_mem hj
  have hr := H.lin _ hx
  have e1 := elX_inj H.n255 (by rw [List.getElem?_eq_getElem hj, Option.getD_some]; have := hr.1; have := hr.2; omega) hi e
  rw [List.getElem?_eq_getElem hj, Option.getD_some] at e1
  have : lost[j] = (i : Int) := by have := hr.1; omega
  rw [← this]; exact hx
theorem Scene.errs_val (i : Nat) (hi : i < n) (h : i ∉ errs) : evN (co (erTo n (natI errs) errs.length)) errs.length (inv (elX n i)) ≠ 0 := by
  refine er_nonroot n (natI errs) errs.length i fun j hj e => h ?_
  rw [natI_get errs j hj, Int.toNat_natCast] at e
  have e1 := elX_inj H.n255 ((H.ein _ (List.getElem_mem hj)).1) hi e
  rw [← e1]; exact List.getElem_mem hj
/-- The modified syndromes behind the first ones: the errors alone. -/
theorem Scene.mod_val (m : Nat) (h1 : lost.length ≤ m) (h2 : m < p) : co (modTo n lost (synB W p) lost.length) m = sumN n (fun i => (co W i + co C i) * evN (co (erTo n lost lost.length)) lost.length (inv (elX n i)) * pow (elX n i) m) := by
  rw [co_modTo n lost (synB W p) lost.length m (by rw [synB_len]; exact h2), H.conv_val (er_top n lost lost.length).1 m h1 h2]
  exact F.sumN_congr fun i _ => by ac_rfl
theorem Scene.loc_uniq (hne : ∀ i ∈ errs, co W i ≠ co C i) (m : Nat) (hm : m + (lost.length + errs.length) = p) :
    Uniq m errs.length (errM (modTo n lost (synB W p) lost.length) errs.length (lost.length + errs.length)) (fun a => co (erTo n (natI errs) errs.length) (a + 1)) := by
  have hrad := H.rad
  obtain ⟨e, he⟩ : ∃ e, errs.length = e := ⟨_, rfl⟩
  obtain ⟨s, hs⟩ : ∃ s, lost.length = s := ⟨_, rfl⟩
  obtain ⟨T, hT⟩ : ∃ T, modTo n lost (synB W p) lost.length = T := ⟨_, rfl⟩
  have hTc : ∀ j, j < p → co T j = conv (co (erTo n lost lost.length)) (co (synB W p)) j := fun j hj => by
    rw [← hT]; exact co_modTo n lost (synB W p) lost.length j (by rw [synB_len]; exact hj)
  refine ⟨fun a ha => ?_, fun v hv => ?_⟩
  · rw [hT]
    have hj : lost.length + errs.length + a < p := by omega
    obtain ⟨j, hje⟩ : ∃ j, lost.length + errs.length + a = j := ⟨_, rfl⟩
    have h0 := H.lam_zero j (by omega) (by omega)
    rw [conv_congr j (fun _ _ => rfl) (g' := co T) (fun k hk => (hTc k (by omega)).symm)] at h0
    have hlam := er_top n (natI errs) errs.length
    obtain ⟨Lam, hLam⟩ : ∃ L, co (erTo n (natI errs) errs.length) = L := ⟨_, rfl⟩
    rw [hLam] at h0 hlam ⊢
    unfold conv at h0
    rw [F.sumN_left, hlam.2.2, F.one_mul, Nat.sub_zero, F.sumN_more (n := errs.length) (by omega) (fun i h1 _ => by rw [hlam.1 (i + 1) (by omega), F.zero_mul])] at h0
    have h1 := F.add_eq_zero.1 h0
    have hR : F.mk (errM T errs.length (lost.length + errs.length) a errs.length) = co T j := by
      unfold errM; rw [if_neg (Nat.lt_irrefl _), hje]; rfl
    rw [hR, h1]
    refine F.sumN_congr fun k hk => ?_
    have hL : F.mk (errM T errs.length (lost.length + errs.length) a k) = co T (j - (k + 1)) := by
      unfold errM; rw [if_pos hk, hje]; rfl
    rw [hL, F.mul_comm]
  · rw [hT] at hv
    let V : F → F := fun y => sumN errs.length (fun k => v k * pow y (k + 1))
    let d : Nat → F := fun i => (co W i + co C i) * evN (co (erTo n lost lost.length)) lost.length (inv (elX n i)) * (pow (elX n i) (lost.length + errs.length) * V (inv (elX n i)))
    have hsup : ∀ i, i < n → i ∉ errs → d i = 0 := by
      intro i hi hie
      show (co W i + co C i) * evN _ _ _ * _ = 0
      by_cases c : co W i = co C i
      · rw [c, F.add_self, F.zero_mul, F.zero_mul]
      · rcases H.all i hi c with h | h
        · rw [lost_root n lost i h, F.mul_zero, F.zero_mul]
        · exact absurd h hie
    have hsum : ∀ a, a < errs.length → sumN n (fun i => d i * pow (elX n i) a) = 0 := by
      intro a ha
      have ham : a < m := by omega
      have h0 := hv a ham
      rw [← h0]
      have hk : ∀ k, k < errs.length → F.mk (errM T errs.length (lost.length + errs.length) a k) * v k = sumN n (fun i => (co W i + co C i) * evN (co (erTo n lost lost.length)) lost.length (inv (elX n i)) * pow (elX n i) (lost.length + errs.length + a - (k + 1)) * v k) := by
        intro k hk
        have hL : F.mk (errM T errs.length (lost.length + errs.length) a k) = co T (lost.length + errs.length + a - (k + 1)) := by
          unfold errM; rw [if_pos hk]; rfl
        rw [hL, ← hT, H.mod_val _ (by omega) (by omega), ← F.sumN_mul_right]
      rw [F.sumN_congr hk, F.sumN_swap]
      refine F.sumN_congr fun i _ => ?_
      show (co W i + co C i) * evN _ _ _ * (pow (elX n i) (lost.length + errs.length) * sumN errs.length (fun k => v k * pow (inv (elX n i)) (k + 1))) * pow (elX n i) a = _
      rw [← F.sumN_mul, ← F.sumN_mul, ← F.sumN_mul_right]
      refine F.sumN_congr fun k hk => ?_
      rw [pow_cancel (elX_ne n i) (lost.length + errs.length + a) (k + 1) (by omega), F.pow_add (elX n i) (lost.length + errs.length) a]
      ac_rfl
    have hd := F.vander n (elX n) errs (fun i hi => (H.ein i hi).1) (fun i hi j hj e => elX_inj H.n255 (H.ein i hi).1 (H.ein j hj).1 e) d hsup H.end_ hsum
    intro k hk
    have hV : ∀ i ∈ errs, V (inv (elX n i)) = 0 := by
      intro i hi
      have h1 := hd i (H.ein i hi).1
      have hc : (co W i + co C i) * evN (co (erTo n lost lost.length)) lost.length (inv (elX n i)) ≠ 0 :=
        F.mul_ne_zero (fun e => hne i hi (F.add_eq_zero.1 e)) (H.lost_val i (H.ein i hi).1 (H.ein i hi).2)
      rcases F.mul_eq_zero.1 h1 with h2 | h2
      · exact absurd h2 hc
      · exact (F.mul_eq_zero.1 h2).elim (fun h3 => absurd h3 (F.pow_ne_zero (elX_ne n i) _)) id
    have hroots := roots_all (errs.length - 1) (fun k => if k < errs.length then v k else 0) (fun j hj => if_neg (by omega)) (errs.map fun i => inv (elX n i)) (pts H.n255 errs H.end_ fun i hi => (H.ein i hi).1) (by rw [List.length_map]; omega) (fun y hy => by
      obtain ⟨i, hi, rfl⟩ := List.mem_map.1 hy
      have hy0 : inv (elX n i) ≠ 0 := inv_ne_zero (elX_ne n i)
      have h1 : inv (elX n i) * sumN errs.length (fun k => v k * pow (inv (elX n i)) k) = 0 := by
        rw [← hV i hi, ← F.sumN_mul]
        refine F.sumN_congr fun k _ => ?_
        show _ = v k * (pow (inv (elX n i)) k * inv (elX n i))
        ac_rfl
      have h2 := (F.mul_eq_zero.1 h1).resolve_left hy0
      unfold evN
      rw [show errs.length - 1 + 1 = errs.length by omega]
      refine Eq.trans (F.sumN_congr fun k hk => ?_) h2
      show (if k < errs.length then v k else 0) * _ = _
      rw [if_pos hk]) k
    rw [if_pos hk] at hroots
    exact hroots
end
end Go.Proofs.Ytamkahjdedomlaa
namespace Go.Proofs.Ytamkahjdedomlaa
set_option linter.unusedVariables false
open F (sumN pow inv)

theorem loc_part (loc : List UInt8) (Lam : Nat → F) (h0 : Lam 0 = 1) (e : Nat) (h : ∀ a, a < e → Lam (a + 1) = F.mk (loc[a]?.getD 0)) (y : UInt8) : ∀ k, k ≤ e → F.mk (locTo loc y k) = evN Lam k (F.mk y) := by
  intro k
  induction k with
  | zero =>
    intro _
    show (1 : F) = (0 : F) + Lam 0 * pow (F.mk y) 0
    rw [F.zero_add, h0]; exact (F.mul_one _).symm
  | succ k ih =>
    intro hk
    show F.mk (locTo loc y k) + F.mk (loc[k]?.getD 0) * pow (F.mk y) (k + 1) = evN Lam k (F.mk y) + Lam (k + 1) * pow (F.mk y) (k + 1)
    rw [ih (by omega), h k (by omega)]
theorem sum_at (n : Nat) (f : Nat → F) (A : List Int) (hA : A.Nodup) (hin : ∀ x ∈ A, inR n x) : sumN A.length (fun k => f (A[k]?.getD 0).toNat) = sumN n (fun i => if (i : Int) ∈ A then f i else 0) := by
  induction A with
  | nil => exact (F.sumN_zero fun i _ => if_neg (by simp)).symm
  | cons a A ih =>
    rw [List.nodup_cons] at hA
    have ha := hin a (by simp)
    rw [List.length_cons, F.sumN_left]
    have h1 : sumN A.length (fun i => f (((a :: A)[i + 1]?).getD 0).toNat) = sumN A.length (fun k => f (A[k]?.getD 0).toNat) := F.sumN_congr fun i _ => by rw [List.getElem?_cons_succ]
    rw [h1, ih hA.2 (fun x hx => hin x (by simp [hx]))]
    have h2 : sumN n (fun i => if (i : Int) ∈ a :: A then f i else 0) = sumN n (fun i => (if i = a.toNat then f i else 0) + (if (i : Int) ∈ A then f i else 0)) := by
      refine F.sumN_congr fun i _ => ?_
      by_cases e : i = a.toNat
      · have e2 : (i : Int) = a := by have := ha.1; omega
        rw [if_pos (by rw [e2]; simp), if_pos e, if_neg (by rw [e2]; exact hA.1), F.add_zero]
      · have e2 : (i : Int) ≠ a := by have := ha.1; omega
        rw [if_neg e, F.zero_add]
        by_cases c : (i : Int) ∈ A
        · rw [if_pos (by simp [c]), if_pos c]
        · rw [if_neg (by simp [c, e2]), if_neg c]
    rw [h2, F.sumN_add, F.sumN_single a.toNat (by have := ha.1; have := ha.2; omega) (fun i _ hi => if_neg hi), if_pos rfl]
    rfl
theorem sum_places (n : Nat) (f : Nat → F) (A : List Int) (hA : A.Nodup) (hin : ∀ x ∈ A, inR n x) (hf : ∀ i, i < n → (i : Int) ∉ A → f i = 0) : sumN A.length (fun k => f (A[k]?.getD 0).toNat) = sumN n f := by
  rw [sum_at n f A hA hin]
  refine F.sumN_congr fun i hi => ?_
  by_cases c : (i : Int) ∈ A
  · rw [if_pos c]
  · rw [if_neg c, hf i hi c]
theorem getD_mem {A : List Int} {k : Nat} (h : k < A.length) : A[k]?.getD 0 ∈ A := by
  rw [List.getElem?_eq_getElem h]; exact List.getElem_mem h
theorem getD_inj {A : List Int} (hA : A.Nodup) {j k : Nat} (hj : j < A.length) (hk : k < A.length) (h : A[j]?.getD 0 = A[k]?.getD 0) : j = k := by
  rw [List.getElem?_eq_getElem hj, List.getElem?_eq_getElem hk] at h
  have h' : A[j] = A[k] := h
  rcases Nat.lt_trichotomy j k with c | c | c
  · exact absurd h' (List.pairwise_iff_getElem.1 (List.nodup_iff_pairwise_ne.1 hA) j k hj hk c)
  · exact c
  · exact absurd h'.symm (List.pairwise_iff_getElem.1 (List.nodup_iff_pairwise_ne.1 hA) k j hk hj c)

/-! The values. -/
theorem apply_out (W : List UInt8) (A : List Int) (y : List UInt8) (i : Nat) (hi : i < W.length) (q : Nat) (h : ∀ j, j < q → (A[j]?.getD 0).toNat ≠ i) : co (applyTo W A y q) i = co W i := by
  induction q with
  | zero => rfl
  | succ q ih =>
    rw [← ih fun j hj => h j (by omega)]
    show F.mk ((List.set _ _ _)[i]?.getD 0) = F.mk _
    rw [set_getD _ _ _ _ (by rw [applyTo_len]; exact hi), if_neg (h q (by omega))]
theorem apply_in (W C : List UInt8) (A : List Int) (hA : A.Nodup) (hin : ∀ x ∈ A, inR W.length x) (y : List UInt8) (hy : ∀ k, k < A.length → co W (A[k]?.getD 0).toNat + co C (A[k]?.getD 0).toNat = F.mk (y[k]?.getD 0)) (q : Nat) (hq : q ≤ A.length) :
    ∀ k, k < q → co (applyTo W A y q) (A[k]?.getD 0).toNat = co C (A[k]?.getD 0).toNat := by
  induction q with
  | zero => intro k hk; omega
  | succ q ih =>
    intro k hk
    have hkr := hin _ (getD_mem (show k < A.length by omega))
    have hqr := hin _ (getD_mem (show q < A.length by omega))
    have hkl : (A[k]?.getD 0).toNat < W.length := by have := hkr.1; have := hkr.2; omega
    show F.mk ((List.set _ _ _)[(A[k]?.getD 0).toNat]?.getD 0) = _
    rw [set_getD _ _ _ _ (by rw [applyTo_len]; exact hkl)]
    by_cases e : (A[q]?.getD 0).toNat = (A[k]?.getD 0).toNat
    · rw [if_pos e, e]
      have hkq : q = k := getD_inj hA (by omega) (by omega) (by have := hkr.1; have := hqr.1; omega)
      subst hkq
      have h1 : co (applyTo W A y q) (A[q]?.getD 0).toNat = co W (A[q]?.getD 0).toNat := apply_out W A y _ hkl q fun j hj e2 => by
        have hjr := hin _ (getD_mem (show j < A.length by omega))
        have := getD_inj hA (show j < A.length by omega) (show q < A.length by omega) (by have := hjr.1; have := hkr.1; omega)
        omega
      show co (applyTo W A y q) _ + F.mk (y[q]?.getD 0) = _
      rw [h1, ← hy q (by omega), ← F.add_assoc, F.add_self, F.zero_add]
    · rw [if_neg e]
      exact ih (by omega) k (by
        by_cases c : k = q
        · subst c; exact absurd rfl e
        · omega)
theorem co_eq_list {a b : List UInt8} (hl : a.length = b.length) (h : ∀ i, i < a.length → co a i = co b i) : a = b := ext_getD hl fun k hk => congrArg F.byte (h k hk)

section
variable {W C : List UInt8} {n p : Nat} {lost : List Int} {errs : List Nat} (H : Scene W C n p lost errs)
include H
theorem Scene.root_iff (loc : List UInt8) (hloc : ∀ a, a < errs.length → co (erTo n (natI errs) errs.length) (a + 1) = F.mk (loc[a]?.getD 0)) (i : Nat) (hi : i < n) : rootB loc n errs.length lost i = decide (i ∈ errs) := by
  have hv : F.mk (locTo loc (F.invB (F.expB (n - 1 - i))) errs.length) = evN (co (erTo n (natI errs) errs.length)) errs.length (inv (elX n i)) :=
    loc_part loc _ (er_top n (natI errs) errs.length).2.2 errs.length hloc _ _ (Nat.le_refl _)
  unfold rootB
  by_cases c : i ∈ errs
  · have h0 : locTo loc (F.invB (F.expB (n - 1 - i))) errs.length = 0 := congrArg F.byte (hv.trans (err_root n errs i c))
    rw [decide_eq_true c, decide_eq_true h0, decide_eq_false (H.ein i c).2]; rfl
  · have h0 : locTo loc (F.invB (F.expB (n - 1 - i))) errs.length ≠ 0 := fun e => H.errs_val i hi c (hv.symm.trans (congrArg F.mk e))
    rw [decide_eq_false c, decide_eq_false h0]; rfl
theorem Scene.roots (loc : List UInt8) (hloc : ∀ a, a < errs.length → co (erTo n (natI errs) errs.length) (a + 1) = F.mk (loc[a]?.getD 0)) :
    rootsTo loc n errs.length lost n = natI ((List.range n).filter fun i => decide (i ∈ errs)) ∧ (rootsTo loc n errs.length lost n).length = errs.length := by
  have h1 : (List.range n).filter (rootB loc n errs.length lost) = (List.range n).filter fun i => decide (i ∈ errs) := List.filter_congr fun i hi => H.root_iff loc hloc i (List.mem_range.1 hi)
  have h2 := cntR_all H.end_ fun i hi => (H.ein i hi).1
  unfold cntR at h2
  unfold rootsTo
  rw [h1]
  exact ⟨rfl, by rw [List.length_map]; exact h2⟩
theorem Scene.val_uniq (A : List Int) (hA : A.Nodup) (hin : ∀ x ∈ A, inR n x) (hp : A.length ≤ p) (hall : ∀ i, i < n → co W i ≠ co C i → (i : Int) ∈ A) :
    Uniq p A.length (valM (synB W p) n A A.length) (fun k => co W (A[k]?.getD 0).toNat + co C (A[k]?.getD 0).toNat) := by
  have hel : ∀ a k, k < A.length → F.mk (valM (synB W p) n A A.length a k) = pow (elX n (A[k]?.getD 0).toNat) a := by
    intro a k hk
    unfold valM; rw [if_pos hk]; rfl
  refine ⟨fun a ha => ?_, fun v hv => ?_⟩
  · have hr : F.mk (valM (synB W p) n A A.length a A.length) = co (synB W p) a := by unfold valM; rw [if_neg (Nat.lt_irrefl _)]; rfl
    rw [hr, H.synd a ha]
    have h1 := sum_places n (fun i => (co W i + co C i) * pow (elX n i) a) A hA hin (fun i hi hni => by
      by_cases c : co W i = co C i
      · rw [c, F.add_self, F.zero_mul]
      · exact absurd (hall i hi c) hni)
    rw [← h1]
    exact F.sumN_congr fun k hk => by rw [hel a k hk, F.mul_comm]
  · let w : Nat → F := fun i => sumN A.length (fun k => if (A[k]?.getD 0).toNat = i then v k else 0)
    have hz := F.vander n (elX n) (A.map Int.toNat) (fun i hi => by
        obtain ⟨x, hx, rfl⟩ := List.mem_map.1 hi
        have := hin x hx; have := this.1; have := (hin x hx).2; omega)
      (fun i hi j hj e => by
        obtain ⟨x, hx, rfl⟩ := List.mem_map.1 hi
        obtain ⟨z, hz, rfl⟩ := List.mem_map.1 hj
        have h1 := hin x hx; have h2 := hin z hz
        exact elX_inj H.n255 (by have := h1.1; have := h1.2; omega) (by have := h2.1; have := h2.2; omega) e)
      w (fun i hi hni => F.sumN_zero fun k hk => if_neg fun e => hni (List.mem_map.2 ⟨_, getD_mem hk, e⟩))
      (by
        rw [List.nodup_iff_pairwise_ne, List.pairwise_map]
        refine (List.nodup_iff_pairwise_ne.1 hA).imp_of_mem fun {x z} hx hz hne e => hne ?_
        have h1 := hin x hx; have h2 := hin z hz
        have := h1.1; have := h2.1; omega)
      (fun j hj => by
        rw [List.length_map] at hj
        rw [← hv j (by omega)]
        have : ∀ i, i < n → w i * pow (elX n i) j = sumN A.length (fun k => (if (A[k]?.getD 0).toNat = i then v k else 0) * pow (elX n i) j) := fun i _ => (F.sumN_mul_right _ _ _).symm
        rw [F.sumN_congr this, F.sumN_swap]
        refine F.sumN_congr fun k hk => ?_
        have hk2 := hin _ (getD_mem hk)
        rw [F.sumN_single (A[k]?.getD 0).toNat (by have := hk2.1; have := hk2.2; omega) (fun i _ hi => by rw [if_neg (fun e => hi e.symm), F.zero_mul]), if_pos rfl, hel j k hk, F.mul_comm])
    intro k hk
    have hk2 := hin _ (getD_mem hk)
    have h1 := hz (A[k]?.getD 0).toNat (by have := hk2.1; have := hk2.2; omega)
    have h2 : w (A[k]?.getD 0).toNat = v k := by
      show sumN A.length (fun j => if (A[j]?.getD 0).toNat = (A[k]?.getD 0).toNat then v j else 0) = v k
      rw [F.sumN_single k hk (fun j hj hjk => if_neg fun e => hjk (getD_inj hA hj hk (by
        have := (hin _ (getD_mem hj)).1; have := hk2.1; omega))), if_pos rfl]
    rw [h2] at h1; exact h1
theorem Scene.applied (A : List Int) (hA : A.Nodup) (hin : ∀ x ∈ A, inR n x) (hall : ∀ i, i < n → co W i ≠ co C i → (i : Int) ∈ A) (y : List UInt8)
    (hy : ∀ k, k < A.length → co W (A[k]?.getD 0).toNat + co C (A[k]?.getD 0).toNat = F.mk (y[k]?.getD 0)) : applyTo W A y A.length = C := by
  refine co_eq_list (by rw [applyTo_len, H.wl, H.cl]) fun i hi => ?_
  rw [applyTo_len] at hi
  by_cases c : (i : Int) ∈ A
  · obtain ⟨k, hk, e⟩ := List.mem_iff_getElem.1 c
    have e2 : (A[k]?.getD 0).toNat = i := by rw [List.getElem?_eq_getElem hk, Option.getD_some, e]; omega
    have := apply_in W C A hA (by rw [H.wl]; exact hin) y hy A.length (Nat.le_refl _) k hk
    rw [e2] at this; exact this
  · rw [apply_out W A y i hi A.length fun j hj e => c ?_]
    · by_cases d : co W i = co C i
      · exact d
      · exact absurd (hall i (by rw [← H.wl]; exact hi) d) c
    · have := (hin _ (getD_mem hj)).1
      have e2 : A[j]?.getD 0 = (i : Int) := by omega
      rw [← e2]; exact getD_mem hj
end
end Go.Proofs.Ytamkahjdedomlaa
namespace Go.Proofs.Ytamkahjdedomlaa
set_option linter.unusedVariables false
open F (sumN pow inv)

/-- The erasures, each once, in the order in which they come. -/
def lostF (zs : List Int) : Nat → List Int
  | 0 => []
  | k + 1 => if (zs[k]?.getD 0) ∈ lostF zs k then lostF zs k else lostF zs k ++ [zs[k]?.getD 0]
theorem lostF_len (zs : List Int) (k : Nat) : (lostF zs k).length ≤ k := by
  induction k with
  | zero => exact Nat.le_refl _
  | succ k ih =>
    simp only [lostF]
    split
    · omega
    · rw [List.length_append]; simp; omega
theorem lostF_mem (zs : List Int) (k : Nat) (hk : k ≤ zs.length) (x : Int) : x ∈ lostF zs k ↔ x ∈ zs.take k := by
  induction k with
  | zero => simp [lostF]
  | succ k ih =>
    have h1 := ih (by omega)
    rw [List.take_succ_eq_append_getElem (by omega), List.mem_append, ← h1]
    have e : zs[k]?.getD 0 = zs[k] := by rw [List.getElem?_eq_getElem (by omega)]; rfl
    simp only [lostF, e]
    split
    next h =>
      constructor
      · exact Or.inl
      · rintro (h2 | h2)
        · exact h2
        · rw [List.mem_singleton] at h2; rw [h2]; exact h
    next h => rw [List.mem_append]
theorem lostF_nodup (zs : List Int) (k : Nat) : (lostF zs k).Nodup := by
  induction k with
  | zero => exact List.nodup_nil
  | succ k ih =>
    simp only [lostF]
    split
    next h => exact ih
    next h =>
      rw [List.nodup_append]
      refine ⟨ih, by simp, fun a ha b hb e => ?_⟩
      rw [List.mem_singleton] at hb
      rw [hb] at e
      rw [e] at ha
      exact h ha
theorem lostF_all (zs : List Int) (x : Int) : x ∈ lostF zs zs.length ↔ x ∈ zs := by
  rw [lostF_mem zs zs.length (Nat.le_refl _), List.take_length]
theorem lostF_same (zs : List Int) : (lostF zs zs.length).length = (lostB zs).length :=
  List.Perm.length_eq ((List.perm_ext_iff_of_nodup (lostF_nodup zs _) (lost_nodup zs)).2 fun x => by rw [lostF_all, lost_mem])
def Hit (W : List UInt8) (p : Nat) (lost : List Int) (e : Nat) : Prop := ∃ C errs, Scene W C W.length p lost errs ∧ (∀ i ∈ errs, co W i ≠ co C i) ∧ errs.length = e
theorem rootsTo_mem (loc : List UInt8) (n e : Nat) (lost : List Int) (x : Int) : x ∈ rootsTo loc n e lost n → inR n x ∧ x ∉ lost := by
  intro h
  unfold rootsTo at h
  obtain ⟨i, hi, rfl⟩ := List.mem_map.1 h
  rw [List.mem_filter, List.mem_range] at hi
  refine ⟨⟨by omega, by omega⟩, ?_⟩
  have := hi.2
  unfold rootB at this
  simp only [Bool.and_eq_true, Bool.not_eq_true', decide_eq_false_iff_not] at this
  exact this.2
theorem rootsTo_nodup (loc : List UInt8) (n e : Nat) (lost : List Int) : (rootsTo loc n e lost n).Nodup := by
  unfold rootsTo
  rw [List.nodup_iff_pairwise_ne, List.pairwise_map]
  refine List.Pairwise.imp ?_ (List.Pairwise.filter _ (List.nodup_iff_pairwise_ne.1 List.nodup_range))
  intro a b hab e
  exact hab (by omega)
/-- The places of a stage. -/
theorem places_ok (loc : List UInt8) (n e : Nat) (lost : List Int) (hl : lost.Nodup) (hin : ∀ x ∈ lost, inR n x) : (lost ++ rootsTo loc n e lost n).Nodup ∧ ∀ x ∈ lost ++ rootsTo loc n e lost n, inR n x := by
  refine ⟨?_, fun x hx => ?_⟩
  · rw [List.nodup_append]
    refine ⟨hl, rootsTo_nodup loc n e lost, fun a ha b hb e2 => ?_⟩
    rw [e2] at ha
    exact (rootsTo_mem loc n e lost b hb).2 ha
  · rcases List.mem_append.1 hx with h | h
    · exact hin x h
    · exact (rootsTo_mem loc n e lost x h).1
theorem hit_errors {W : List UInt8} {p : Nat} {lost : List Int} {e m : Nat} (h : Hit W p lost e) (hm : m + (lost.length + e) = p) : ∃ x, Uniq m e (errM (modTo W.length lost (synB W p) lost.length) e (lost.length + e)) x := by
  obtain ⟨C, errs, H, hne, rfl⟩ := h
  exact ⟨_, H.loc_uniq hne m hm⟩
theorem hit_roots {W : List UInt8} {p : Nat} {lost : List Int} {e m : Nat} (h : Hit W p lost e) (hm : m + (lost.length + e) = p) (loc : List UInt8)
    (hloc : ∀ x, Sol m e (errM (modTo W.length lost (synB W p) lost.length) e (lost.length + e)) x → ∀ a, a < e → x a = F.mk (loc[a]?.getD 0)) :
    (rootsTo loc W.length e lost W.length).length = e ∧ (∃ x, Uniq p (lost ++ rootsTo loc W.length e lost W.length).length (valM (synB W p) W.length (lost ++ rootsTo loc W.length e lost W.length) (lost ++ rootsTo loc W.length e lost W.length).length) x) ∧
      ∀ y, (∀ x, Sol p (lost ++ rootsTo loc W.length e lost W.length).length (valM (synB W p) W.length (lost ++ rootsTo loc W.length e lost W.length) (lost ++ rootsTo loc W.length e lost W.length).length) x → ∀ a, a < (lost ++ rootsTo loc W.length e lost W.length).length → x a = F.mk (y[a]?.getD 0)) →
        ∀ i, i < p → horn (applyTo W (lost ++ rootsTo loc W.length e lost W.length) y (lost ++ rootsTo loc W.length e lost W.length).length) (F.expB i) = 0 := by
  obtain ⟨C, errs, H, hne, rfl⟩ := h
  have hU := H.loc_uniq hne m hm
  have hl := hloc _ hU.1
  obtain ⟨r1, r2⟩ := H.roots loc hl
  obtain ⟨a1, a2⟩ := places_ok loc W.length errs.length lost H.lnd H.lin
  have hrad := H.rad
  have hall : ∀ i, i < W.length → co W i ≠ co C i → (i : Int) ∈ lost ++ rootsTo loc W.length errs.length lost W.length := by
    intro i hi hd
    rw [List.mem_append]
    rcases H.all i hi hd with h | h
    · exact Or.inl h
    · refine Or.inr ?_
      rw [r1]
      exact List.mem_map.2 ⟨i, List.mem_filter.2 ⟨List.mem_range.2 hi, decide_eq_true h⟩, rfl⟩
  have hV := H.val_uniq _ a1 a2 (by rw [List.length_append, r2]; omega) hall
  refine ⟨r2, ⟨_, hV⟩, fun y hy i hi => ?_⟩
  rw [H.applied _ a1 a2 hall y (hy _ hV.1)]
  exact H.cw i hi
/-- A word that the reference gives is the one that Decode gives. -/
theorem dec_found {W c : List UInt8} {p : Nat} {zs : List Int} {roots : List Int} (hok : 1 ≤ p ∧ p ≤ 64 ∧ p ≤ W.length ∧ W.length ≤ 255) (hroom : ∀ x ∈ zs, inR W.length x) (hc : c.length = W.length) (hcw : ∀ i, i < p → horn c (F.expB i) = 0)
    (hr : ∀ x ∈ roots, 0 ≤ x) (hsame : ∀ i, i < W.length → (i : Int) ∉ lostF zs zs.length ++ roots → co c i = co W i) (hrad : 2 * roots.length + (lostF zs zs.length).length ≤ p) : decB W p zs = (c, (diffs W c).length, 0) := by
  refine dec_in_radius hok hc hcw hroom ?_
  rw [← errs_wrong, ← lostF_same zs]
  have hle : (errsOf W c (lostB zs)).length ≤ (roots.map Int.toNat).length := by
    have hnd : (errsOf W c (lostB zs)).Nodup := List.Pairwise.filter _ (diffs_nodup W c)
    refine List.Nodup.length_le_of_subset hnd fun i hi => ?_
    unfold errsOf at hi
    rw [List.mem_filter, Bool.not_eq_true', List.contains_eq_mem, decide_eq_false_iff_not] at hi
    obtain ⟨h1, h2⟩ := (mem_diffs W c i).1 hi.1
    have h3 : (i : Int) ∈ lostF zs zs.length ++ roots := by
      apply Classical.byContradiction
      intro hn
      exact h2 (hsame i h1 hn).symm
    rcases List.mem_append.1 h3 with h4 | h4
    · exact absurd ((lost_mem zs _).2 ((lostF_all zs _).1 h4)) hi.2
    · exact List.mem_map.2 ⟨_, h4, by omega⟩
  rw [List.length_map] at hle
  omega
theorem decB_arg {W : List UInt8} {p : Int} {zs : List Int} (h : ¬ goodP W p) : decB W p zs = ([], 0, 1) := by unfold decB; rw [if_neg h]
theorem decB_range {W : List UInt8} {p : Int} {zs : List Int} (h : goodP W p) (x : Int) (hx : x ∈ zs) (hn : ¬ inR W.length x) : decB W p zs = ([], 0, 1) := by
  unfold decB decOk
  rw [if_pos h, if_neg]
  intro e
  rw [List.all_eq_true] at e
  exact hn (of_decide_eq_true (p := 0 ≤ x ∧ x < (W.length : Int)) (e x ((lost_mem zs x).2 hx)))
theorem decB_over {W : List UInt8} {p : Nat} {zs : List Int} (h : goodP W p) (hroom : ∀ x ∈ zs, inR W.length x) (ho : p < (lostF zs zs.length).length) : decB W p zs = ([], 0, 11) := by
  rw [lostF_same] at ho
  unfold decB decOk
  rw [if_pos h, if_pos (by
    rw [List.all_eq_true]
    intro x hx
    exact decide_eq_true (p := 0 ≤ x ∧ x < (W.length : Int)) (hroom x ((lost_mem zs x).1 hx))), Int.toNat_natCast, if_pos ho]
theorem Scene.relist {W C : List UInt8} {n p : Nat} {lost lost' : List Int} {errs : List Nat} (H : Scene W C n p lost errs) (hn : lost'.Nodup) (hm : ∀ x, x ∈ lost' ↔ x ∈ lost) (hl : lost'.length = lost.length) : Scene W C n p lost' errs :=
  ⟨H.wl, H.cl, H.n255, H.cw, fun x hx => H.lin x ((hm x).1 hx), hn, fun i hi => ⟨(H.ein i hi).1, fun h => (H.ein i hi).2 ((hm _).1 h)⟩, H.end_, fun i hi hd => (H.all i hi hd).imp (hm _).2 id, by rw [hl]; exact H.rad⟩
theorem decB_miss {W : List UInt8} {p : Nat} {zs : List Int} (h : goodP W p) (hroom : ∀ x ∈ zs, inR W.length x) (ho : (lostF zs zs.length).length ≤ p) (hm : ∀ e, 2 * e + (lostF zs zs.length).length ≤ p → ¬ Hit W p (lostF zs zs.length) e) : decB W p zs = ([], 0, 11) := by
  rcases decB_sound W p zs with h1 | h1 | ⟨q, o, hq, h1, G⟩
  · exfalso
    unfold decB decOk at h1
    rw [if_pos h, if_pos (by
      rw [List.all_eq_true]
      intro x hx
      exact decide_eq_true (p := 0 ≤ x ∧ x < (W.length : Int)) (hroom x ((lost_mem zs x).1 hx))), Int.toNat_natCast, if_neg (by rw [← lostF_same]; omega)] at h1
    unfold decMain at h1
    simp only at h1
    split at h1
    · exact absurd (congrArg (fun x => x.2.2) h1) (by decide)
    · split at h1
      · exact absurd (congrArg (fun x => x.2.2) h1) (by show ¬ (0 : Nat) = 1; decide)
      · exact absurd (congrArg (fun x => x.2.2) h1) (by decide)
  · exact h1
  · exfalso
    have hqp : q = p := by omega
    subst hqp
    have hcw := ((isCw_iff o q).1 G.cw).2
    have hr := G.rad
    rw [← errs_wrong] at hr
    have hS := (scene_of G.ok.2.2.2 G.len hcw G.room hr).relist (lostF_nodup zs zs.length) (fun x => by rw [lostF_all, lost_mem]) (lostF_same zs)
    refine hm _ (by rw [lostF_same]; exact hr) ⟨o, _, hS, fun i hi => ?_, rfl⟩
    unfold errsOf at hi
    rw [List.mem_filter] at hi
    exact ((mem_diffs W o i).1 hi.1).2
end Go.Proofs.Ytamkahjdedomlaa
