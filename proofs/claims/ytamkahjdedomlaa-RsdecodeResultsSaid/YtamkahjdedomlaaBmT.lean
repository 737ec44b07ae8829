/-
  Berlekamp-Massey: what the state of the algorithm is worth behind each round. No program in sight.
-/
import Derived.Test.YtamkahjdedomlaaCv
import Derived.Test.YtamkahjdedomlaaBm
namespace Go.Proofs.Ytamkahjdedomlaa
set_option linter.unusedVariables false
open F (sumN pow inv)

theorem mk_dTo (l syn : List UInt8) (n k : Nat) : F.mk (dTo l syn n k) = sumN k (fun i => co l i * co syn (n - i)) := by
  induction k with
  | zero => rfl
  | succ k ih => show F.mk (dTo l syn n k) + co l k * co syn (n - k) = _; rw [ih]; rfl
theorem disc (l syn : List UInt8) (G C : Nat → F) (n : Nat) (hl : ∀ k, co l k = conv G C k) : F.mk (dTo l syn n (n + 1)) = conv C (conv G (co syn)) n := by
  rw [mk_dTo, ← conv_assoc]
  show conv (co l) (co syn) n = _
  exact conv_congr n (fun k _ => by rw [hl k, conv_comm]) (fun k _ => rfl)
theorem conv_add_right (f g h : Nat → F) (n : Nat) : conv h (fun k => f k + g k) n = conv h f n + conv h g n := by
  rw [conv_comm, conv_add, conv_comm f, conv_comm g]
theorem conv_smul_right (a : F) (f h : Nat → F) (n : Nat) : conv h (fun k => f k * a) n = conv h f n * a := by
  rw [conv_comm, conv_smul, conv_comm f]

structure BmInv (G T : Nat → F) (s e n : Nat) (st : BM) (C P : Nat → F) : Prop where
  l : ∀ k, co st.l k = conv G C k
  pr : ∀ k, co (List.replicate st.gap 0 ++ st.prev) k = conv G P k
  c0 : C 0 = 1
  cdeg : ∀ k, st.len - s < k → C k = 0
  cz : ∀ m, st.len ≤ m → m < n → conv C T m = 0
  p0 : P 0 = 0
  pdeg : ∀ k, n + 1 - st.len < k → P k = 0
  pz : ∀ m, n + 1 + s - st.len ≤ m → m < n → conv P T m = 0
  pn : st.len = s ∨ conv P T n = F.mk st.last
  lo : s ≤ st.len
  hi : st.len ≤ n
  lst : st.last ≠ 0
  le : st.len ≤ s + e

theorem co_shift_succ (prev : List UInt8) (gap k : Nat) : co (List.replicate (gap + 1) 0 ++ prev) k = shf (co (List.replicate gap 0 ++ prev)) k := by
  cases k with
  | zero => rw [co_shift, if_pos (by omega)]; rfl
  | succ k =>
    show _ = co (List.replicate gap 0 ++ prev) k
    rw [co_shift, co_shift]
    by_cases h : k < gap
    · rw [if_pos (by omega), if_pos h]
    · rw [if_neg (by omega), if_neg h, show k + 1 - (gap + 1) = k - gap by omega]
theorem pr_shift {G P : Nat → F} {prev : List UInt8} {gap : Nat} (h : ∀ k, co (List.replicate gap 0 ++ prev) k = conv G P k) (k : Nat) : co (List.replicate (gap + 1) 0 ++ prev) k = conv G (shf P) k := by
  rw [co_shift_succ, conv_shf_right]
  cases k with
  | zero => rfl
  | succ k => exact h k
theorem co_next {l prev : List UInt8} {gap : Nat} {d last : UInt8} (k : Nat) : co (bmNext l prev gap d last) k = co l k + co (List.replicate gap 0 ++ prev) k * (F.mk d * inv (F.mk last)) := by
  rw [co_bmNext, co_shift]
  by_cases c : k < gap
  · rw [if_pos c, if_pos c, F.zero_mul]
  · rw [if_neg c, if_neg c]

theorem massey {C T Lam : Nat → F} {L s e n p : Nat} (hn : n < p) (hC : ∀ k, L < k → C k = 0) (hz : ∀ m, s + L ≤ m → m < n → conv C T m = 0) (hd : conv C T n ≠ 0)
    (h0 : Lam 0 = 1) (hL : ∀ k, e < k → Lam k = 0) (hLz : ∀ m, s + e ≤ m → m < p → conv Lam T m = 0) : n + 1 ≤ s + e + L := by
  by_cases hc : n + 1 ≤ s + e + L
  · exact hc
  · exfalso
    have h1 : conv Lam (conv C T) n = conv C T n := by
      show sumN (n + 1) (fun i => Lam i * conv C T (n - i)) = _
      have hz0 : sumN n (fun i => Lam (i + 1) * conv C T (n - (i + 1))) = 0 := F.sumN_zero fun i hi => by
        by_cases c : e < i + 1
        · rw [hL _ c, F.zero_mul]
        · rw [hz (n - (i + 1)) (by omega) (by omega), F.mul_zero]
      rw [F.sumN_left, hz0, F.add_zero, h0, F.one_mul, Nat.sub_zero]
    have h2 : conv Lam (conv C T) n = conv C (conv Lam T) n := by
      rw [← conv_assoc, ← conv_assoc]
      exact conv_congr n (fun k _ => conv_comm _ _ _) (fun _ _ => rfl)
    have h3 : conv C (conv Lam T) n = 0 := conv_zero_of fun k hk => by
      by_cases c : L < k
      · rw [hC k c, F.zero_mul]
      · rw [hLz (n - k) (by omega) (by omega), F.mul_zero]
    rw [h2, h3] at h1
    exact hd h1.symm

theorem bm_step {G Lam : Nat → F} {syn : List UInt8} {s e n p : Nat} {st : BM} {C P : Nat → F} (hI : BmInv G (conv G (co syn)) s e n st C P) (hs : s ≤ n) (hn : n < p)
    (h0 : Lam 0 = 1) (hL : ∀ k, e < k → Lam k = 0) (hLz : ∀ m, s + e ≤ m → m < p → conv Lam (conv G (co syn)) m = 0) :
    ∃ C' P', BmInv G (conv G (co syn)) s e (n + 1) (bmStep syn s n st) C' P' := by
  obtain ⟨il, ipr, ic0, icdeg, icz, ip0, ipdeg, ipz, ipn, ilo, ihi, ilst, ile⟩ := hI
  obtain ⟨T, hT⟩ : ∃ T, conv G (co syn) = T := ⟨_, rfl⟩
  have hd := disc st.l syn G C n il
  rw [hT] at icz ipz ipn hLz hd ⊢
  by_cases hd0 : dTo st.l syn n (n + 1) = 0
  · have hst : bmStep syn s n st = { st with gap := st.gap + 1 } := if_pos hd0
    rw [hst]
    have hd' : conv C T n = 0 := by rw [← hd, hd0]; rfl
    refine ⟨C, shf P, ⟨il, fun k => pr_shift ipr k, ic0, icdeg, fun m h1 h2 => ?_, rfl, fun k hk => ?_, fun m h1 h2 => ?_, ?_, ilo, by show st.len ≤ n + 1; omega, ilst, ile⟩⟩
    · by_cases c : m = n
      · rw [c]; exact hd'
      · exact icz m h1 (by omega)
    · cases k with
      | zero => omega
      | succ k => exact ipdeg k (by show n + 1 - st.len < k; have : n + 1 + 1 - st.len < k + 1 := hk; omega)
    · have h1' : n + 1 + 1 + s - st.len ≤ m := h1
      cases m with
      | zero => exact conv_shf_zero _ _
      | succ m => rw [conv_shf]; exact ipz m (by omega) (by omega)
    · rcases ipn with h | h
      · exact Or.inl h
      · exact Or.inr (by rw [conv_shf]; exact h)
  · have hdn : conv C T n ≠ 0 := by rw [← hd]; exact hd0
    obtain ⟨d, hdd⟩ : ∃ d, dTo st.l syn n (n + 1) = d := ⟨_, rfl⟩
    rw [hdd] at hd hd0
    have hnl : ∀ k, co (bmNext st.l st.prev st.gap d st.last) k = conv G (fun k => C k + P k * (F.mk d * inv (F.mk st.last))) k := by
      intro k
      rw [co_next, conv_add_right, conv_smul_right, il, ipr]
    have hcn : ∀ m, st.len ≤ m → n + 1 + s - st.len ≤ m → m < n → conv (fun k => C k + P k * (F.mk d * inv (F.mk st.last))) T m = 0 := by
      intro m h1 h2 h3
      rw [conv_add, conv_smul, icz m h1 h3, ipz m h2 h3, F.zero_mul, F.add_zero]
    have hcnn : st.len ≠ s → conv (fun k => C k + P k * (F.mk d * inv (F.mk st.last))) T n = 0 := by
      intro hne
      rcases ipn with h | h
      · exact absurd h hne
      · rw [conv_add, conv_smul, h, ← hd, show F.mk st.last * (F.mk d * inv (F.mk st.last)) = F.mk d * (F.mk st.last * inv (F.mk st.last)) by ac_rfl, F.mul_inv (show F.mk st.last ≠ 0 from ilst), F.mul_one, F.add_self]
    have hc0n : C 0 + P 0 * (F.mk d * inv (F.mk st.last)) = 1 := by rw [ip0, F.zero_mul, F.add_zero, ic0]
    by_cases hlong : 2 * st.len ≤ n + s
    · have hst : bmStep syn s n st = ⟨bmNext st.l st.prev st.gap d st.last, st.l, n + s + 1 - st.len, 1, d⟩ := by
        unfold bmStep; rw [hdd, if_neg hd0, if_pos hlong]
      rw [hst]
      have hm := massey (L := st.len - s) (s := s) hn icdeg (fun m h1 h2 => icz m (by omega) h2) hdn h0 hL hLz
      refine ⟨_, shf C, ⟨hnl, fun k => ?_, hc0n, fun k hk => ?_, fun m h1 h2 => ?_, rfl, fun k hk => ?_, fun m h1 h2 => ?_, Or.inr ?_, by show s ≤ n + s + 1 - st.len; omega, by show n + s + 1 - st.len ≤ n + 1; omega, hd0, by show n + s + 1 - st.len ≤ s + e; omega⟩⟩
      · exact pr_shift (gap := 0) (prev := st.l) (fun k => il k) k
      · have hk' : n + s + 1 - st.len - s < k := hk
        rw [icdeg k (by omega), ipdeg k (by omega), F.zero_mul, F.add_zero]
      · have h1' : n + s + 1 - st.len ≤ m := h1
        by_cases c : m = n
        · rw [c]; exact hcnn (by omega)
        · exact hcn m (by omega) (by omega) (by omega)
      · have hk' : n + 1 + 1 - (n + s + 1 - st.len) < k := hk
        cases k with
        | zero => rfl
        | succ k => exact icdeg k (by omega)
      · have h1' : n + 1 + 1 + s - (n + s + 1 - st.len) ≤ m := h1
        cases m with
        | zero => exact conv_shf_zero _ _
        | succ m => rw [conv_shf]; exact icz m (by omega) (by omega)
      · rw [conv_shf]; exact hd.symm
    · have hst : bmStep syn s n st = ⟨bmNext st.l st.prev st.gap d st.last, st.prev, st.len, st.gap + 1, st.last⟩ := by
        unfold bmStep; rw [hdd, if_neg hd0, if_neg hlong]
      rw [hst]
      refine ⟨_, shf P, ⟨hnl, fun k => pr_shift ipr k, hc0n, fun k hk => ?_, fun m h1 h2 => ?_, rfl, fun k hk => ?_, fun m h1 h2 => ?_, ?_, ilo, by show st.len ≤ n + 1; omega, ilst, ile⟩⟩
      · have hk' : st.len - s < k := hk
        rw [icdeg k hk', ipdeg k (by omega), F.zero_mul, F.add_zero]
      · have h1' : st.len ≤ m := h1
        by_cases c : m = n
        · rw [c]; exact hcnn (by omega)
        · exact hcn m h1' (by omega) (by omega)
      · have hk' : n + 1 + 1 - st.len < k := hk
        cases k with
        | zero => rfl
        | succ k => exact ipdeg k (by omega)
      · have h1' : n + 1 + 1 + s - st.len ≤ m := h1
        cases m with
        | zero => exact conv_shf_zero _ _
        | succ m => rw [conv_shf]; exact ipz m (by omega) (by omega)
      · rcases ipn with h | h
        · exact Or.inl h
        · exact Or.inr (by rw [conv_shf]; exact h)
theorem conv_unit (f : Nat → F) (n : Nat) : conv f (fun k => if k = 0 then 1 else 0) n = f n := by
  rw [conv_comm]
  unfold conv
  rw [F.sumN_left, F.sumN_zero (fun i hi => by show (if i + 1 = 0 then (1 : F) else 0) * _ = 0; rw [if_neg (by omega), F.zero_mul]), F.add_zero]
  show (1 : F) * f n = f n
  exact F.one_mul _
theorem bm_all {Lam : Nat → F} {syn er : List UInt8} {s e p : Nat} (h0 : Lam 0 = 1) (hL : ∀ k, e < k → Lam k = 0) (hLz : ∀ m, s + e ≤ m → m < p → conv Lam (conv (co er) (co syn)) m = 0) (k : Nat) (hk : s + k ≤ p) :
    ∃ C P, BmInv (co er) (conv (co er) (co syn)) s e (s + k) (bmTo syn er s k) C P := by
  induction k with
  | zero =>
    refine ⟨fun k => if k = 0 then 1 else 0, shf (fun k => if k = 0 then 1 else 0), ⟨fun k => (conv_unit _ k).symm, fun k => ?_, rfl, fun k hk => ?_, fun m h1 h2 => ?_, rfl, fun k hk => ?_, fun m h1 h2 => ?_, Or.inl rfl, Nat.le_refl _, Nat.le_refl _, by show (1 : UInt8) ≠ 0; decide, by show s ≤ s + e; omega⟩⟩
    · exact pr_shift (gap := 0) (prev := er) (fun k => (conv_unit _ k).symm) k
    · have : s - s < k := hk
      exact if_neg (by omega)
    · have : s ≤ m := h1
      omega
    · have : s + 0 + 1 - s < k := hk
      cases k with
      | zero => rfl
      | succ k => exact if_neg (by omega)
    · have : s + 0 + 1 + s - s ≤ m := h1
      omega
  | succ k ih =>
    obtain ⟨C, P, hI⟩ := ih (by omega)
    have := bm_step hI (show s ≤ s + k by omega) (show s + k < p by omega) h0 hL hLz
    exact this
end Go.Proofs.Ytamkahjdedomlaa
