/-
  The law's damage: what its loop keeps, and that what comes out is within the radius. No program in sight.
-/
import Derived.Test.YtamkahjdedomlaaDecT3
namespace Go.Proofs.Ytamkahjdedomlaa
set_option linter.unusedVariables false

/-- The state of the loop: the word, the erasures, the places used, what is left of the budget. -/
structure Dam (c : List UInt8) (p : Nat) (W : List UInt8) (lost : List Int) (S : List (Int × Bool)) (b : Nat) : Prop where
  len : W.length = c.length
  nd : (S.map (·.1)).Nodup
  rng : ∀ x ∈ S.map (·.1), inR c.length x
  tru : ∀ x v, getK S x = some v → v = true
  lin : ∀ x ∈ lost, x ∈ S.map (·.1)
  lnd : lost.Nodup
  dif : ∀ i, i < c.length → co W i ≠ co c i → (i : Int) ∈ S.map (·.1)
  bud : b + 2 * S.length = p + lost.length
theorem Dam.start (c : List UInt8) (p : Nat) : Dam c p c [] [] p where
  len := rfl
  nd := by simp
  rng := by simp
  tru := fun x v h => by cases h
  lin := by simp
  lnd := by simp
  dif := fun i _ h => absurd rfl h
  bud := by simp
theorem Dam.step {c W : List UInt8} {p b k : Nat} {lost : List Int} {S : List (Int × Bool)} (D : Dam c p W lost S b) (hk : k < c.length) (hnew : getK S (k : Int) = none) (v : UInt8) (hb : 2 ≤ b) :
    Dam c p (W.set k v) lost (putK S (k : Int) true) (b - 2) ∧ Dam c p (W.set k v) (lost ++ [(k : Int)]) (putK S (k : Int) true) (b - 1) := by
  have hn := (getK_none S _).1 hnew
  have hlen : (putK S (k : Int) true).length = S.length + 1 := by rw [putK_new S _ true hn, List.length_append]; rfl
  have hm := mem_keys_put S (k : Int) (v := true)
  have hbud := D.bud
  have hrng : ∀ x ∈ (putK S (k : Int) true).map (·.1), inR c.length x := fun x hx => by
    rcases (hm x).1 hx with e | e
    · rw [e]; exact ⟨by omega, by omega⟩
    · exact D.rng x e
  have htru : ∀ x v, getK (putK S (k : Int) true) x = some v → v = true := fun x v h => by
    rw [getK_put] at h
    split at h
    · cases h; rfl
    · exact D.tru x v h
  have hdif : ∀ i, i < c.length → co (W.set k v) i ≠ co c i → (i : Int) ∈ (putK S (k : Int) true).map (·.1) := fun i hi hne => by
    refine (hm _).2 ?_
    by_cases e : i = k
    · subst e; exact Or.inl rfl
    · rw [co_set _ _ _ _ (by rw [D.len]; exact hk), if_neg e] at hne
      exact Or.inr (D.dif i hi hne)
  refine ⟨⟨by rw [List.length_set]; exact D.len, nodup_put _ _ _ D.nd, hrng, htru, fun x hx => (hm x).2 (Or.inr (D.lin x hx)), D.lnd, hdif, by rw [hlen]; omega⟩,
    ⟨by rw [List.length_set]; exact D.len, nodup_put _ _ _ D.nd, hrng, htru, fun x hx => ?_, ?_, hdif, by rw [hlen, List.length_append]; simp; omega⟩⟩
  · refine (hm x).2 ?_
    rcases List.mem_append.1 hx with e | e
    · exact Or.inr (D.lin x e)
    · exact Or.inl (List.mem_singleton.1 e)
  · rw [List.nodup_append]
    refine ⟨D.lnd, by simp, fun a ha b' hb' e => ?_⟩
    rw [List.mem_singleton] at hb'
    exact hn (by rw [← hb', ← e]; exact D.lin a ha)
theorem Dam.step1 {c W : List UInt8} {p b k : Nat} {lost : List Int} {S : List (Int × Bool)} (D : Dam c p W lost S b) (hk : k < c.length) (hnew : getK S (k : Int) = none) (v : UInt8) (hb : 1 ≤ b) :
    Dam c p (W.set k v) (lost ++ [(k : Int)]) (putK S (k : Int) true) (b - 1) := by
  have hn := (getK_none S _).1 hnew
  have hlen : (putK S (k : Int) true).length = S.length + 1 := by rw [putK_new S _ true hn, List.length_append]; rfl
  have hm := mem_keys_put S (k : Int) (v := true)
  have hbud := D.bud
  refine ⟨by rw [List.length_set]; exact D.len, nodup_put _ _ _ D.nd, fun x hx => ?_, fun x v h => ?_, fun x hx => ?_, ?_, fun i hi hne => ?_, by rw [hlen, List.length_append]; simp; omega⟩
  · rcases (hm x).1 hx with e | e
    · rw [e]; exact ⟨by omega, by omega⟩
    · exact D.rng x e
  · rw [getK_put] at h
    split at h
    · cases h; rfl
    · exact D.tru x v h
  · refine (hm x).2 ?_
    rcases List.mem_append.1 hx with e | e
    · exact Or.inr (D.lin x e)
    · exact Or.inl (List.mem_singleton.1 e)
  · rw [List.nodup_append]
    refine ⟨D.lnd, by simp, fun a ha b' hb' e => ?_⟩
    rw [List.mem_singleton] at hb'
    exact hn (by rw [← hb', ← e]; exact D.lin a ha)
  · refine (hm _).2 ?_
    by_cases e : i = k
    · subst e; exact Or.inl rfl
    · rw [co_set _ _ _ _ (by rw [D.len]; exact hk), if_neg e] at hne
      exact Or.inr (D.dif i hi hne)
theorem nodup_sub_len {α : Type} [DecidableEq α] : ∀ (a b : List α), a.Nodup → (∀ x ∈ a, x ∈ b) → a.length ≤ b.length
  | [], b, _, _ => Nat.zero_le _
  | x :: a, b, hn, hs => by
    rw [List.nodup_cons] at hn
    have hx := hs x (by simp)
    have h := nodup_sub_len a (b.erase x) hn.2 fun y hy => (List.mem_erase_of_ne (fun e => hn.1 (by rw [← e]; exact hy))).2 (hs y (List.mem_cons_of_mem _ hy))
    rw [List.length_erase_of_mem hx] at h
    have : 1 ≤ b.length := by
      cases b with
      | nil => cases hx
      | cons _ _ => simp
    simp only [List.length_cons]; omega
/-- What comes out decodes to the code word. -/
theorem Dam.dec {c W : List UInt8} {p b : Nat} {lost : List Int} {S : List (Int × Bool)} (D : Dam c p W lost S b) (hok : 1 ≤ p ∧ p ≤ 64 ∧ p ≤ c.length ∧ c.length ≤ 255) (hcw : ∀ i, i < p → horn c (F.expB i) = 0) : decB W p lost = (c, (diffs W c).length, 0) := by
  refine dec_in_radius (by rw [D.len]; exact hok) D.len.symm hcw (fun x hx => by rw [D.len]; exact D.rng x (D.lin x hx)) ?_
  have hll : (lostB lost).length = lost.length := List.Perm.length_eq ((List.perm_ext_iff_of_nodup (lost_nodup lost) D.lnd).2 fun x => lost_mem lost x)
  rw [← errs_wrong, hll]
  have h1 := nodup_sub_len ((natI (errsOf W c (lostB lost))) ++ lost) (S.map (·.1)) (by
    rw [List.nodup_append]
    refine ⟨?_, D.lnd, fun a ha b' hb' e => ?_⟩
    · unfold natI
      rw [List.nodup_iff_pairwise_ne, List.pairwise_map]
      refine List.Pairwise.imp ?_ (List.nodup_iff_pairwise_ne.1 (List.Pairwise.filter _ (diffs_nodup W c)))
      intro x y hne e; exact hne (by omega)
    · unfold natI at ha
      obtain ⟨i, hi, rfl⟩ := List.mem_map.1 ha
      unfold errsOf at hi
      rw [List.mem_filter] at hi
      have := hi.2
      rw [Bool.not_eq_true', List.contains_eq_mem, decide_eq_false_iff_not] at this
      exact this ((lost_mem lost _).2 (by rw [e]; exact hb'))) (fun x hx => by
    rcases List.mem_append.1 hx with h | h
    · unfold natI at h
      obtain ⟨i, hi, rfl⟩ := List.mem_map.1 h
      unfold errsOf at hi
      rw [List.mem_filter] at hi
      have hd := (mem_diffs W c i).1 hi.1
      rw [D.len] at hd
      exact D.dif i hd.1 hd.2
    · exact D.lin x h)
  unfold natI at h1
  rw [List.length_append, List.length_map, List.length_map] at h1
  have := D.bud
  omega
end Go.Proofs.Ytamkahjdedomlaa
