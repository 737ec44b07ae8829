/-
  Within the radius decoding returns the code word. No program in sight.
-/
import Derived.Test.YtamkahjdedomlaaDecT2
namespace Go.Proofs.Ytamkahjdedomlaa
set_option linter.unusedVariables false
open F (sumN pow inv)

def cntR (R : List Nat) (k : Nat) : Nat := ((List.range k).filter fun i => decide (i ∈ R)).length
theorem cntR_in {R : List Nat} {k : Nat} (h : k ∈ R) : cntR R (k + 1) = cntR R k + 1 := by
  unfold cntR
  rw [List.range_succ, List.filter_append, List.filter_cons_of_pos (by simpa using h), List.length_append]; rfl
theorem cntR_out {R : List Nat} {k : Nat} (h : k ∉ R) : cntR R (k + 1) = cntR R k := by
  unfold cntR
  rw [List.range_succ, List.filter_append, List.filter_cons_of_neg (by simpa using h)]; simp
theorem cntR_all {R : List Nat} {n : Nat} (hn : R.Nodup) (hlt : ∀ i ∈ R, i < n) : cntR R n = R.length := by
  unfold cntR
  refine List.Perm.length_eq ((List.perm_ext_iff_of_nodup (List.Pairwise.filter _ List.nodup_range) hn).2 fun x => ?_)
  rw [List.mem_filter, List.mem_range, decide_eq_true_iff]
  exact ⟨fun h => h.2, fun h => ⟨hlt x h, h⟩⟩

section
variable {W C : List UInt8} {n p : Nat} {lost : List Int} {errs : List Nat} {l : List UInt8} {R : List Nat} (H : Loc W C n p lost errs l R)
include H
theorem Loc.ev_in (i : Nat) (hi : i ∈ R) : evB l (xAt n i) = 0 := by
  show F.mk (evB l (xAt n i)) = 0
  rw [ev_evN l _ R.length (by rw [H.llen]; exact Nat.le_refl _), mk_xAt n i H.sc.n255 (H.lt i hi)]
  exact H.root i hi
theorem Loc.ev_out (i : Nat) (hi : i < n) (h : i ∉ R) : evB l (xAt n i) ≠ 0 := by
  show F.mk (evB l (xAt n i)) ≠ 0
  rw [ev_evN l _ R.length (by rw [H.llen]; exact Nat.le_refl _), mk_xAt n i H.sc.n255 hi]
  exact H.other i hi h
theorem Loc.sl_in (i : Nat) (hi : i ∈ R) : evB (pderiv l) (xAt n i) ≠ 0 := by
  show F.mk (evB (pderiv l) (xAt n i)) ≠ 0
  rw [H.slope i hi]
  exact F.mul_ne_zero (elX_ne n i) (H.q_self i hi)
theorem Loc.dec_at (k : Nat) (hk : k ≤ n) : ∃ o, decTo l ((pmul (synB W p) l).take p) (pderiv l) W n k = some (o, cntR R k) ∧ o.length = n ∧ ∀ i, i < n → co o i = if i < k then co C i else co W i := by
  induction k with
  | zero => exact ⟨W, rfl, H.sc.wl, fun i _ => (if_neg (by omega)).symm⟩
  | succ k ih =>
    obtain ⟨o, h1, h2, h3⟩ := ih (by omega)
    by_cases c : k ∈ R
    · refine ⟨_, by rw [decTo_hit h1 (H.ev_in k c) (H.sl_in k c), cntR_in c], by rw [List.length_set]; exact h2, fun i hi => ?_⟩
      rw [co_set _ _ _ _ (by omega)]
      by_cases e : i = k
      · subst e
        rw [if_pos rfl, if_pos (by omega)]
        show co o i + F.mk (forney ((pmul (synB W p) l).take p) (pderiv l) n i) = _
        rw [H.forney_val i c, h3 i hi, if_neg (by omega), ← F.add_assoc, F.add_self, F.zero_add]
      · rw [if_neg e, h3 i hi]
        by_cases d : i < k
        · rw [if_pos d, if_pos (by omega)]
        · rw [if_neg d, if_neg (by omega)]
    · refine ⟨o, by rw [decTo_skip h1 (H.ev_out k (by omega) c), cntR_out c], h2, fun i hi => ?_⟩
      rw [h3 i hi]
      by_cases e : i = k
      · subst e
        rw [if_neg (by omega), if_pos (by omega)]
        by_cases d : co W i = co C i
        · exact d
        · rcases H.sc.all i hi d with h | h
          · exact absurd (H.lostR i h) c
          · exact absurd (H.errR i h) c
      · by_cases d : i < k
        · rw [if_pos d, if_pos (by omega)]
        · rw [if_neg d, if_neg (by omega)]
theorem Loc.dec_all : decTo l ((pmul (synB W p) l).take p) (pderiv l) W n n = some (C, R.length) := by
  obtain ⟨o, h1, h2, h3⟩ := H.dec_at n (Nat.le_refl _)
  rw [h1, cntR_all H.nd H.lt]
  congr 2
  refine co_ext (by rw [h2, H.sc.cl]) fun i hi => ?_
  rw [h3 i (by omega), if_pos (by omega)]
end

theorem co_eq_iff (a b : List UInt8) (i : Nat) : co a i = co b i ↔ a[i]?.getD 0 = b[i]?.getD 0 := Iff.rfl
theorem mem_diffs (a b : List UInt8) (i : Nat) : i ∈ diffs a b ↔ i < a.length ∧ co a i ≠ co b i := by
  unfold diffs
  rw [List.mem_filter, List.mem_range, bne_iff_ne]; rfl
theorem diffs_nodup (a b : List UInt8) : (diffs a b).Nodup := List.Pairwise.filter _ List.nodup_range
/-- The places outside the erasures at which two words differ. -/
def errsOf (W C : List UInt8) (lost : List Int) : List Nat := (diffs W C).filter fun (i : Nat) => !lost.contains (i : Int)
theorem scene_of {W C : List UInt8} {q : Nat} {zs : List Int} (h255 : W.length ≤ 255) (hC : C.length = W.length) (hcw : ∀ i, i < q → horn C (F.expB i) = 0) (hroom : ∀ x ∈ zs, inR W.length x)
    (hrad : 2 * (errsOf W C (lostB zs)).length + (lostB zs).length ≤ q) : Scene W C W.length q (lostB zs) (errsOf W C (lostB zs)) where
  wl := rfl
  cl := hC
  n255 := h255
  cw := hcw
  lin := fun x hx => hroom x ((lost_mem zs x).1 hx)
  lnd := lost_nodup zs
  ein := fun i hi => by
    unfold errsOf at hi
    rw [List.mem_filter] at hi
    refine ⟨((mem_diffs W C i).1 hi.1).1, fun h => ?_⟩
    have := hi.2
    rw [Bool.not_eq_true', List.contains_eq_mem, decide_eq_false_iff_not] at this
    exact this h
  end_ := List.Pairwise.filter _ (diffs_nodup W C)
  all := fun i hi hne => by
    by_cases h : (i : Int) ∈ lostB zs
    · exact Or.inl h
    · refine Or.inr ?_
      unfold errsOf
      rw [List.mem_filter]
      refine ⟨(mem_diffs W C i).2 ⟨hi, hne⟩, ?_⟩
      rw [Bool.not_eq_true', List.contains_eq_mem, decide_eq_false_iff_not]
      exact h
  rad := hrad
theorem errs_wrong (W C : List UInt8) (lost : List Int) : (errsOf W C lost).length = wrongTo (diffs W C) lost (diffs W C).length := (wrong_all _ _).symm
theorem dec_in_radius {W C : List UInt8} {q : Nat} {zs : List Int} (hok : 1 ≤ q ∧ q ≤ 64 ∧ q ≤ W.length ∧ W.length ≤ 255) (hC : C.length = W.length) (hcw : ∀ i, i < q → horn C (F.expB i) = 0) (hroom : ∀ x ∈ zs, inR W.length x)
    (hrad : 2 * wrongTo (diffs W C) (lostB zs) (diffs W C).length + (lostB zs).length ≤ q) : decB W q zs = (C, (diffs W C).length, 0) := by
  have hrad' : 2 * (errsOf W C (lostB zs)).length + (lostB zs).length ≤ q := by rw [errs_wrong]; exact hrad
  have hS := scene_of hok.2.2.2 hC hcw hroom hrad'
  obtain ⟨R, r1, r2, r3, r4, r5, r6⟩ := hS.places
  have hL : Loc W C W.length q (lostB zs) (errsOf W C (lostB zs)) (locB (synB W q) (erTo W.length (lostB zs) (lostB zs).length)) R :=
    ⟨hS, rfl, r1, r2, r3, r4, r5, r6, fun i hi => by
      unfold errsOf at hi
      rw [List.mem_filter] at hi
      exact ((mem_diffs W C i).1 hi.1).2⟩
  have hd := hL.dec_all
  have hll := hL.llen
  unfold decB
  rw [if_pos (show goodP W q from ⟨by omega, by omega, by omega, by omega⟩), Int.toNat_natCast]
  unfold decOk
  rw [if_pos (by
    rw [List.all_eq_true]
    intro x hx
    exact decide_eq_true (hroom x ((lost_mem zs x).1 hx))), if_neg (by omega)]
  unfold decMain
  simp only [hd]
  rw [if_pos]
  refine ⟨hll.symm, (isCw_iff C q).2 ⟨⟨hok.1, hok.2.1, by rw [hC]; exact hok.2.2.1, by rw [hC]; exact hok.2.2.2⟩, hcw⟩, ?_⟩
  unfold radB
  exact decide_eq_true (by omega)
/-- Good decodings are the decodings of the words around a code word. -/
theorem Good.back {W : List UInt8} {q : Nat} {zs : List Int} {o : List UInt8} (G : Good W q zs o) : decB W q zs = (o, (diffs W o).length, 0) :=
  dec_in_radius G.ok G.len ((isCw_iff o q).1 G.cw).2 G.room G.rad
end Go.Proofs.Ytamkahjdedomlaa
