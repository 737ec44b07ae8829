/-
  What rsdecode.locator computes (Berlekamp-Massey from the erasures' product on), as a function of lists; sizes. No program in sight.
-/
import Derived.Test.YtamkahjdedomlaaDk2
namespace Go.Proofs.Ytamkahjdedomlaa
set_option linter.unusedVariables false

structure BM where
  l : List UInt8
  prev : List UInt8
  len : Nat
  gap : Nat
  last : UInt8
/-- The discrepancy: the first i terms. -/
def dTo (l syn : List UInt8) (n : Nat) : Nat → UInt8
  | 0 => 0
  | i + 1 => dTo l syn n i ^^^ F.mulB (l[i]?.getD 0) (syn[n - i]?.getD 0)
def bmNext (l prev : List UInt8) (gap : Nat) (d last : UInt8) : List UInt8 := padd l (List.replicate gap 0 ++ pmul prev [F.divB d last])
def bmStep (syn : List UInt8) (s n : Nat) (st : BM) : BM :=
  if dTo st.l syn n (n + 1) = 0 then { st with gap := st.gap + 1 }
  else if 2 * st.len ≤ n + s then ⟨bmNext st.l st.prev st.gap (dTo st.l syn n (n + 1)) st.last, st.l, n + s + 1 - st.len, 1, dTo st.l syn n (n + 1)⟩
  else ⟨bmNext st.l st.prev st.gap (dTo st.l syn n (n + 1)) st.last, st.prev, st.len, st.gap + 1, st.last⟩
def bmTo (syn er : List UInt8) (s : Nat) : Nat → BM
  | 0 => ⟨er, er, s, 1, 1⟩
  | k + 1 => bmStep syn s (s + k) (bmTo syn er s k)
def locB (syn er : List UInt8) : List UInt8 := trim (bmTo syn er (er.length - 1) (syn.length - (er.length - 1))).l

theorem trim_len_le (l : List UInt8) (n : Nat) (h : ∀ i, n ≤ i → co l i = 0) : (trim l).length ≤ n := by
  rw [trim_len]
  rcases (trimN_spec l _ (Nat.le_refl _) (fun i hi => co_out l i hi)).2 with e | e
  · omega
  · by_cases c : trimN l l.length ≤ n
    · exact c
    · exact absurd (h _ (by omega)) e
theorem conv_one (p : Nat → F) (b : UInt8) (n : Nat) : conv p (co [b]) n = p n * F.mk b := by
  unfold conv
  rw [F.sumN_single n (by omega) (fun i hi hne => by rw [co_out [b] _ (by simp; omega), F.mul_zero]), Nat.sub_self]; rfl
theorem co_scaled (p : List UInt8) (b : UInt8) (n : Nat) : co (pmul p [b]) n = co p n * F.mk b := by rw [co_pmul, conv_one]
theorem scaled_len (p : List UInt8) (b : UInt8) : (pmul p [b]).length ≤ p.length := by
  unfold pmul
  refine trim_len_le _ _ fun i hi => ?_
  rw [← co_trim]
  show co (pmul p [b]) i = 0
  rw [co_scaled, co_out p i hi, F.zero_mul]
theorem padd_len (p q : List UInt8) : (padd p q).length ≤ max p.length q.length := by
  unfold padd
  refine Nat.le_trans ?_ (Nat.le_of_eq (addTo_len p q q.length))
  rw [trim_len]; exact trimN_le _ _
theorem co_shift (p : List UInt8) (g n : Nat) : co (List.replicate g 0 ++ p) n = if n < g then 0 else co p (n - g) := by
  by_cases c : n < g
  · rw [if_pos c, co_append_left _ _ _ (by simpa using c), co_replicate]
  · rw [if_neg c]
    have := co_append_right (List.replicate g 0) p (n - g)
    rwa [List.length_replicate, show g + (n - g) = n by omega] at this
theorem co_bmNext (l prev : List UInt8) (gap : Nat) (d last : UInt8) (n : Nat) : co (bmNext l prev gap d last) n = co l n + (if n < gap then 0 else co prev (n - gap) * (F.mk d * F.inv (F.mk last))) := by
  unfold bmNext
  rw [co_padd, co_shift]
  congr 1
  by_cases c : n < gap
  · rw [if_pos c, if_pos c]
  · rw [if_neg c, if_neg c, co_scaled]; rfl
theorem co_ne_nil (l : List UInt8) (n : Nat) (h : co l n ≠ 0) : l ≠ [] := fun e => h (by rw [e]; exact co_out _ _ (by simp))

/-- What holds of a state of the algorithm behind k rounds. -/
def BM.Ok (s k : Nat) (st : BM) : Prop :=
  st.l.length ≤ s + 1 + k ∧ st.prev.length + st.gap ≤ s + 2 + k ∧ 1 ≤ st.gap ∧ s ≤ st.len ∧ st.len ≤ s + k ∧ co st.l 0 = 1 ∧ co st.prev 0 = 1 ∧ st.last ≠ 0
theorem bmStep_ok (syn : List UInt8) (s k : Nat) (st : BM) (h : st.Ok s k) : (bmStep syn s (s + k) st).Ok s (k + 1) := by
  obtain ⟨h1, h2, h3, h4, h5, h6, h7, h8⟩ := h
  have hlen : (bmNext st.l st.prev st.gap (dTo st.l syn (s + k) (s + k + 1)) st.last).length ≤ s + 1 + (k + 1) := by
    unfold bmNext
    refine Nat.le_trans (padd_len _ _) ?_
    have := scaled_len st.prev (F.divB (dTo st.l syn (s + k) (s + k + 1)) st.last)
    rw [List.length_append, List.length_replicate]; omega
  have hco : co (bmNext st.l st.prev st.gap (dTo st.l syn (s + k) (s + k + 1)) st.last) 0 = 1 := by
    rw [co_bmNext, if_pos (by omega), F.add_zero, h6]
  unfold bmStep
  by_cases a : dTo st.l syn (s + k) (s + k + 1) = 0
  · rw [if_pos a]
    exact ⟨by show st.l.length ≤ _; omega, by show st.prev.length + (st.gap + 1) ≤ _; omega, by show 1 ≤ st.gap + 1; omega, h4, by show st.len ≤ _; omega, h6, h7, h8⟩
  · rw [if_neg a]
    by_cases b : 2 * st.len ≤ s + k + s
    · rw [if_pos b]
      exact ⟨hlen, by show st.l.length + 1 ≤ _; omega, Nat.le_refl _, by show s ≤ s + k + s + 1 - st.len; omega, by show s + k + s + 1 - st.len ≤ _; omega, hco, h6, a⟩
    · rw [if_neg b]
      exact ⟨hlen, by show st.prev.length + (st.gap + 1) ≤ _; omega, by show 1 ≤ st.gap + 1; omega, h4, by show st.len ≤ _; omega, hco, h7, h8⟩
theorem bmTo_ok (syn er : List UInt8) (s k : Nat) (h1 : er.length = s + 1) (h2 : co er 0 = 1) : (bmTo syn er s k).Ok s k := by
  induction k with
  | zero => exact ⟨by show er.length ≤ _; omega, by show er.length + 1 ≤ _; omega, Nat.le_refl _, Nat.le_refl _, Nat.le_refl _, h2, h2, by show (1 : UInt8) ≠ 0; decide⟩
  | succ k ih => exact bmStep_ok syn s k _ ih
theorem locB_zero (syn er : List UInt8) (s : Nat) (h1 : er.length = s + 1) (h2 : co er 0 = 1) : co (locB syn er) 0 = 1 := by
  unfold locB
  rw [co_trim, h1]
  exact (bmTo_ok syn er s _ h1 h2).2.2.2.2.2.1
theorem locB_len (syn er : List UInt8) (s : Nat) (h1 : er.length = s + 1) (h2 : co er 0 = 1) (hs : s ≤ syn.length) : (locB syn er).length ≤ syn.length + 1 := by
  unfold locB
  have := (bmTo_ok syn er s (syn.length - s) h1 h2).1
  rw [h1, show s + 1 - 1 = s by omega]
  have h3 := trimN_le (bmTo syn er s (syn.length - s)).l (bmTo syn er s (syn.length - s)).l.length
  rw [trim_len]; omega
end Go.Proofs.Ytamkahjdedomlaa
