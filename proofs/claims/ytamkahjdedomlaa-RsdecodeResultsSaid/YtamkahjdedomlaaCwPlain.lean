/-
  Reed-Solomon code words: the encoder's words have their roots, the code is linear, and two words that differ in few places are one. No program in sight.
-/
import Derived.Test.YtamkahjdedomlaaLfPlain
namespace Go.Proofs.Ytamkahjdedomlaa
set_option linter.unusedVariables false
open F (sumN pow)

theorem mk_horn (l : List UInt8) (x : UInt8) (k : Nat) : F.mk (hornTo l x (k + 1)) = F.mk (hornTo l x k) * F.mk x + co l k := rfl
theorem horn_sum (l : List UInt8) (x : UInt8) (k : Nat) : F.mk (hornTo l x k) = sumN k (fun j => co l j * pow (F.mk x) (k - 1 - j)) := by
  induction k with
  | zero => rfl
  | succ k ih =>
    rw [mk_horn, ih, ← F.sumN_mul_right]
    show _ = sumN k _ + co l k * pow (F.mk x) (k + 1 - 1 - k)
    rw [show k + 1 - 1 - k = 0 by omega]
    congr 1
    · refine F.sumN_congr fun i hi => ?_
      rw [show k + 1 - 1 - i = k - 1 - i + 1 by omega, F.mul_assoc]; rfl
    · exact (F.mul_one _).symm
theorem horn_eq (l : List UInt8) (x : UInt8) : F.mk (horn l x) = sumN l.length (fun j => co l j * pow (F.mk x) (l.length - 1 - j)) := horn_sum l x l.length
theorem horn_append (a b : List UInt8) (x : UInt8) : F.mk (horn (a ++ b) x) = F.mk (horn a x) * pow (F.mk x) b.length + F.mk (horn b x) := by
  rw [horn_eq, horn_eq, horn_eq, List.length_append, F.sumN_split, ← F.sumN_mul_right]
  congr 1
  · refine F.sumN_congr fun i hi => ?_
    rw [co_append_left a b i hi, F.mul_assoc, ← F.pow_add]
    congr 2; omega
  · refine F.sumN_congr fun i hi => ?_
    rw [co_append_right]
    congr 2; omega

/-! The generator polynomial. -/
def gval (k : Nat) (x : F) : F := sumN (k + 1) fun n => co (genB k) n * pow x n
theorem gval_zero (x : F) : gval 0 x = 1 := by
  unfold gval
  show (0 : F) + co (genB 0) 0 * pow x 0 = 1
  rw [F.zero_add]; exact F.mul_one _
theorem gval_succ (k : Nat) (x : F) : gval (k + 1) x = gval k x * (x + F.exp k) := by
  unfold gval
  have e : ∀ n, n < k + 1 + 1 → co (genB (k + 1)) n * pow x n = co (genB k) n * pow x n * F.exp k + (if n = 0 then 0 else co (genB k) (n - 1)) * pow x n := by
    intro n _
    rw [co_gen_succ, F.add_mul]
    congr 1; ac_rfl
  rw [F.sumN_congr e, F.sumN_add, F.sumN_mul_right, F.mul_add, F.add_comm]
  congr 1
  · rw [F.sumN_left, if_pos rfl, F.zero_mul, F.zero_add, ← F.sumN_mul_right]
    refine F.sumN_congr fun i hi => ?_
    rw [if_neg (by omega), show i + 1 - 1 = i by omega, F.mul_assoc]; rfl
  · congr 1
    refine F.sumN_more (by omega) fun i h1 h2 => ?_
    rw [co_out _ _ (by rw [gen_len]; exact h1), F.zero_mul]
theorem gval_root (k i : Nat) (h : i < k) : gval k (F.exp i) = 0 := by
  induction k with
  | zero => omega
  | succ k ih =>
    rw [gval_succ]
    by_cases e : i = k
    · subst e; rw [F.add_self, F.mul_zero]
    · rw [ih (by omega), F.zero_mul]
theorem gval_ne (k : Nat) (x : F) (h : ∀ i, i < k → x ≠ F.exp i) : gval k x ≠ 0 := by
  induction k with
  | zero => rw [gval_zero]; exact F.one_ne_zero
  | succ k ih =>
    rw [gval_succ]
    exact F.mul_ne_zero (ih fun i hi => h i (by omega)) (fun e => h k (by omega) (F.add_eq_zero.1 e))

/-! The encoder's words. -/
theorem lf_horn (l : List UInt8) (p i : Nat) (hp : 1 ≤ p) (hi : i < p) (k : Nat) :
    sumN p (fun j => co (lfTo l (genB p) p k) j * pow (F.exp i) (p - 1 - j)) = F.mk (hornTo l (F.expB i) k) * pow (F.exp i) p := by
  induction k with
  | zero =>
    rw [F.sumN_zero (fun j _ => by rw [show lfTo l (genB p) p 0 = List.replicate p 0 from rfl, co_replicate, F.zero_mul])]
    exact (F.zero_mul _).symm
  | succ k ih =>
    rw [mk_horn, F.add_mul]
    obtain ⟨q, rfl⟩ : ∃ q, p = q + 1 := ⟨p - 1, by omega⟩
    obtain ⟨S, hS⟩ : ∃ S, lfTo l (genB (q + 1)) (q + 1) k = S := ⟨_, rfl⟩
    have hx : F.mk (F.expB i) = F.exp i := rfl
    have hlen : S.length = q + 1 := by rw [← hS]; exact lfTo_len _ _ _ _
    rw [F.sumN_congr (fun j hj => by rw [co_lfTo _ _ _ _ _ hj, F.add_mul]), F.sumN_add]
    rw [hS] at ih ⊢
    have h1 : sumN (q + 1) (fun j => co S (j + 1) * pow (F.exp i) (q + 1 - 1 - j)) = F.mk (hornTo l (F.expB i) k) * pow (F.exp i) (q + 1) * F.exp i + co S 0 * pow (F.exp i) (q + 1) := by
      rw [← ih, F.sumN_left q (fun j => co S j * pow (F.exp i) (q + 1 - 1 - j)), F.add_mul, ← F.sumN_mul_right]
      rw [show q + 1 - 1 - 0 = q by omega, F.mul_assoc, show pow (F.exp i) q * F.exp i = pow (F.exp i) (q + 1) from rfl]
      rw [F.add_comm (co S 0 * pow (F.exp i) (q + 1)), F.add_assoc, F.add_self, F.add_zero]
      show sumN q _ + co S (q + 1) * pow (F.exp i) (q + 1 - 1 - q) = _
      rw [co_out S (q + 1) (by omega), F.zero_mul, F.add_zero]
      refine F.sumN_congr fun j hj => ?_
      rw [F.mul_assoc]
      congr 1
      rw [show q + 1 - 1 - j = (q + 1 - 1 - (j + 1)) + 1 by omega]; rfl
    have h2 : sumN (q + 1) (fun j => (co l k + co S 0) * co (genB (q + 1)) (q + 1 - 1 - j) * pow (F.exp i) (q + 1 - 1 - j)) = (co l k + co S 0) * pow (F.exp i) (q + 1) := by
      rw [F.sumN_congr (fun j hj => F.mul_assoc _ _ _), F.sumN_mul]
      congr 1
      have h3 := gval_root (q + 1) i hi
      unfold gval at h3
      have h4 : sumN (q + 1) (fun j => co (genB (q + 1)) j * pow (F.exp i) j) + co (genB (q + 1)) (q + 1) * pow (F.exp i) (q + 1) = 0 := h3
      rw [(gen_top (q + 1)).2, F.one_mul] at h4
      rw [← F.add_eq_zero.1 h4]
      exact (F.sumN_rev (q + 1) (fun j => co (genB (q + 1)) j * pow (F.exp i) j)).symm
    rw [h1, h2, F.add_mul]
    rw [hx, F.add_comm (co l k * _) (co S 0 * _), ← F.add_assoc, F.add_assoc _ (co S 0 * _) (co S 0 * _), F.add_self, F.add_zero]
    congr 1; ac_rfl
theorem enc_root (l : List UInt8) (p i : Nat) (hp : 1 ≤ p) (hi : i < p) : horn (encB l p) (F.expB i) = 0 := by
  show F.mk (horn (encB l p) (F.expB i)) = 0
  unfold encB
  rw [horn_append, lfTo_len, horn_eq (lfTo l (genB p) p l.length), lfTo_len, F.add_eq_zero]
  exact (lf_horn l p i hp hi l.length).symm
theorem enc_isCw (l : List UInt8) (p : Nat) (h1 : 1 ≤ p) (h2 : p ≤ 64) (h3 : l.length + p ≤ 255) : isCw (encB l p) p = true :=
  (isCw_iff _ _).2 ⟨⟨h1, h2, by rw [encB_len]; omega, by rw [encB_len]; omega⟩, fun i hi => enc_root l p i h1 hi⟩

/-! Sums of words. -/
def xorL (a b : List UInt8) : List UInt8 := List.zipWith (· ^^^ ·) a b
theorem xorL_len (a b : List UInt8) : (xorL a b).length = min a.length b.length := by unfold xorL; rw [List.length_zipWith]
theorem co_xorL (a b : List UInt8) (n : Nat) (ha : n < a.length) (hb : n < b.length) : co (xorL a b) n = co a n + co b n := by
  unfold co xorL
  rw [List.getElem?_zipWith, List.getElem?_eq_getElem ha, List.getElem?_eq_getElem hb]; rfl
theorem co_xorL' (a b : List UInt8) (h : a.length = b.length) (n : Nat) : co (xorL a b) n = co a n + co b n := by
  by_cases c : n < a.length
  · exact co_xorL a b n c (by omega)
  · rw [co_out _ _ (by rw [xorL_len]; omega), co_out _ _ (by omega), co_out _ _ (by omega)]; rfl
theorem lf_xor (a b g : List UInt8) (p k : Nat) (h : a.length = b.length) : lfTo (xorL a b) g p k = xorL (lfTo a g p k) (lfTo b g p k) := by
  induction k with
  | zero =>
    refine co_ext (by rw [xorL_len, lfTo_len, lfTo_len, lfTo_len]; omega) fun n hn => ?_
    rw [co_xorL' _ _ (by rw [lfTo_len, lfTo_len])]
    simp only [lfTo]
    rw [co_replicate]; rfl
  | succ k ih =>
    refine co_ext (by rw [xorL_len, lfTo_len, lfTo_len, lfTo_len]; omega) fun n hn => ?_
    rw [lfTo_len] at hn
    rw [co_xorL' _ _ (by rw [lfTo_len, lfTo_len]), co_lfTo _ _ _ _ _ hn, co_lfTo _ _ _ _ _ hn, co_lfTo _ _ _ _ _ hn, ih, co_xorL' (lfTo a g p k) (lfTo b g p k) (by rw [lfTo_len, lfTo_len]), co_xorL' (lfTo a g p k) (lfTo b g p k) (by rw [lfTo_len, lfTo_len]), co_xorL' a b h]
    rw [show co a k + co b k + (co (lfTo a g p k) 0 + co (lfTo b g p k) 0) = (co a k + co (lfTo a g p k) 0) + (co b k + co (lfTo b g p k) 0) by ac_rfl, F.add_mul]
    ac_rfl
theorem enc_xor (a b : List UInt8) (p : Nat) (h : a.length = b.length) : encB (xorL a b) p = xorL (encB a p) (encB b p) := by
  have hl : (xorL a b).length = a.length := by rw [xorL_len]; omega
  unfold encB
  rw [hl, ← h, lf_xor a b (genB p) p a.length h]
  unfold xorL
  rw [List.zipWith_append h]
theorem horn_xor (a b : List UInt8) (x : UInt8) (h : a.length = b.length) : horn (xorL a b) x = horn a x ^^^ horn b x := by
  show F.mk (horn (xorL a b) x) = F.mk (horn a x) + F.mk (horn b x)
  have hl : (xorL a b).length = a.length := by rw [xorL_len]; omega
  rw [horn_eq, horn_eq, horn_eq, hl, ← h, ← F.sumN_add]
  exact F.sumN_congr fun i _ => by rw [co_xorL' a b h, F.add_mul]
theorem syn_xor (a b : List UInt8) (p : Nat) (h : a.length = b.length) : synB (xorL a b) p = xorL (synB a p) (synB b p) := by
  refine co_ext (by rw [xorL_len, synB_len, synB_len, synB_len]; omega) fun n hn => ?_
  rw [synB_len] at hn
  rw [co_xorL' _ _ (by rw [synB_len, synB_len]), co_synB _ _ _ hn, co_synB _ _ _ hn, co_synB _ _ _ hn, horn_xor a b _ h]; rfl

/-! Distance. -/
def diffs (a b : List UInt8) : List Nat := (List.range a.length).filter fun i => a[i]?.getD 0 != b[i]?.getD 0
/-- Two words with roots 1 .. alpha^(p-1) that differ in at most p places are one. -/
theorem cw_unique (a b : List UInt8) (p : Nat) (hl : a.length = b.length) (hn : a.length ≤ 255) (ha : ∀ i, i < p → horn a (F.expB i) = 0) (hb : ∀ i, i < p → horn b (F.expB i) = 0) (hd : (diffs a b).length ≤ p) : a = b := by
  refine co_ext hl fun n hnl => F.add_eq_zero.1 ?_
  refine F.vander a.length (fun i => F.exp (a.length - 1 - i)) (diffs a b) ?_ ?_ (fun i => co a i + co b i) ?_ ?_ ?_ n hnl
  · intro i hi; unfold diffs at hi; rw [List.mem_filter, List.mem_range] at hi; exact hi.1
  · intro i hi j hj e
    unfold diffs at hi hj
    rw [List.mem_filter, List.mem_range] at hi hj
    have := F.exp_inj (by omega) (by omega) e
    omega
  · intro i hi hni
    rw [F.add_eq_zero]
    unfold diffs at hni
    rw [List.mem_filter, List.mem_range] at hni
    have : ¬ (a[i]?.getD 0 != b[i]?.getD 0) = true := fun c => hni ⟨hi, c⟩
    rw [bne_iff_ne, Decidable.not_not] at this
    unfold co; rw [this]
  · unfold diffs; exact List.Pairwise.filter _ List.nodup_range
  · intro j hj
    have h1 : F.mk (horn a (F.expB j)) = 0 := ha j (by omega)
    have h2 : F.mk (horn b (F.expB j)) = 0 := hb j (by omega)
    rw [horn_eq] at h1 h2
    rw [← hl] at h2
    have : sumN a.length (fun i => (co a i + co b i) * pow (F.exp (a.length - 1 - i)) j) = sumN a.length (fun i => co a i * pow (F.mk (F.expB j)) (a.length - 1 - i)) + sumN a.length (fun i => co b i * pow (F.mk (F.expB j)) (a.length - 1 - i)) := by
      rw [← F.sumN_add]
      refine F.sumN_congr fun i _ => ?_
      have : pow (F.exp (a.length - 1 - i)) j = pow (F.mk (F.expB j)) (a.length - 1 - i) := by
        show pow (pow F.gen _) j = pow (pow F.gen j) _
        rw [← F.pow_mul, ← F.pow_mul, Nat.mul_comm]
      rw [this, F.add_mul]
    rw [this, h1, h2]; rfl

/-! Zeros in front. -/
theorem lf_zero (g : List UInt8) (p z : Nat) (l : List UInt8) (hz : ∀ k, k < z → co l k = 0) : ∀ k, k ≤ z → lfTo l g p k = List.replicate p 0 := by
  intro k
  induction k with
  | zero => intro _; rfl
  | succ k ih =>
    intro hk
    refine co_ext (by rw [lfTo_len, List.length_replicate]) fun n hn => ?_
    rw [lfTo_len] at hn
    rw [co_lfTo _ _ _ _ _ hn, ih (by omega), co_replicate, co_replicate, co_replicate, hz k (by omega)]
    rw [F.zero_add, F.zero_add, F.zero_mul]
theorem co_zeros (z : Nat) (l : List UInt8) (k : Nat) (hk : k < z) : co (List.replicate z 0 ++ l) k = 0 := by
  rw [co_append_left _ _ _ (by simp; exact hk), co_replicate]
theorem lf_front (g : List UInt8) (p z : Nat) (l : List UInt8) (k : Nat) : lfTo (List.replicate z 0 ++ l) g p (z + k) = lfTo l g p k := by
  induction k with
  | zero => exact lf_zero g p z _ (fun k hk => co_zeros z l k hk) z (Nat.le_refl _)
  | succ k ih =>
    show lfStep (lfTo (List.replicate z 0 ++ l) g p (z + k)) g ((List.replicate z 0 ++ l)[z + k]?.getD 0) = lfStep (lfTo l g p k) g (l[k]?.getD 0)
    rw [ih, List.getElem?_append_right (by simp)]
    congr 3
    simp
theorem enc_front (z : Nat) (l : List UInt8) (p : Nat) : encB (List.replicate z 0 ++ l) p = List.replicate z 0 ++ encB l p := by
  unfold encB
  rw [List.append_assoc]
  congr 2
  rw [List.length_append, List.length_replicate]
  exact lf_front (genB p) p z l l.length
end Go.Proofs.Ytamkahjdedomlaa
