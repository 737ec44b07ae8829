/-
  One more erasure among the changed places, and erasures named twice. No program in sight.
-/
import Derived.Test.YtamkahjdedomlaaDamPlain
namespace Go.Proofs.Ytamkahjdedomlaa
set_option linter.unusedVariables false

theorem decB_congr (W : List UInt8) (p : Int) (a b : List Int) (h : ∀ x, x ∈ a ↔ x ∈ b) : decB W p a = decB W p b := by
  unfold decB; rw [lost_congr a b h]
/-- What the law's loop collects. -/
def backTo (zs : List Int) : Nat → List Int
  | 0 => []
  | k + 1 => backTo zs k ++ [zs[zs.length - 1 - k]?.getD 0, zs[k]?.getD 0]
theorem backTo_len (zs : List Int) (k : Nat) : (backTo zs k).length = 2 * k := by
  induction k with
  | zero => rfl
  | succ k ih => simp only [backTo, List.length_append, ih]; simp; omega
theorem backTo_mem (zs : List Int) (k : Nat) (hk : k ≤ zs.length) : (∀ x ∈ backTo zs k, x ∈ zs) ∧ ∀ j, j < k → zs[j]?.getD 0 ∈ backTo zs k := by
  induction k with
  | zero => exact ⟨fun x hx => by simp [backTo] at hx, fun j hj => by omega⟩
  | succ k ih =>
    obtain ⟨h1, h2⟩ := ih (by omega)
    refine ⟨fun x hx => ?_, fun j hj => ?_⟩
    · simp only [backTo, List.mem_append, List.mem_cons, List.not_mem_nil, or_false] at hx
      rcases hx with h | h | h
      · exact h1 x h
      · rw [h, List.getElem?_eq_getElem (by omega)]; exact List.getElem_mem _
      · rw [h, List.getElem?_eq_getElem (by omega)]; exact List.getElem_mem _
    · simp only [backTo, List.mem_append, List.mem_cons, List.not_mem_nil, or_false]
      by_cases e : j = k
      · subst e; exact Or.inr (Or.inr rfl)
      · exact Or.inl (h2 j (by omega))
theorem backTo_all (zs : List Int) (x : Int) : x ∈ backTo zs zs.length ↔ x ∈ zs := by
  obtain ⟨h1, h2⟩ := backTo_mem zs zs.length (Nat.le_refl _)
  refine ⟨h1 x, fun h => ?_⟩
  obtain ⟨j, hj, rfl⟩ := List.mem_iff_getElem.1 h
  have := h2 j hj
  rwa [List.getElem?_eq_getElem hj, Option.getD_some] at this
theorem dec_more {W : List UInt8} {q : Nat} {zs : List Int} {o : List UInt8} (G : Good W q zs o) (d : Nat) (hd : d ∈ diffs W o) : decB W q (zs ++ [(d : Int)]) = (o, (diffs W o).length, 0) := by
  by_cases hin : (d : Int) ∈ zs
  · rw [decB_congr W q (zs ++ [(d : Int)]) zs (fun x => by
      rw [List.mem_append, List.mem_singleton]
      exact ⟨fun h => h.elim id fun e => by rw [e]; exact hin, Or.inl⟩)]
    exact G.back
  · have hdm := (mem_diffs W o d).1 hd
    refine dec_in_radius G.ok G.len ((isCw_iff o q).1 G.cw).2 (fun x hx => ?_) ?_
    · rcases List.mem_append.1 hx with h | h
      · exact G.room x h
      · rw [List.mem_singleton.1 h]; exact ⟨by omega, by omega⟩
    · have hrad := G.rad
      rw [← errs_wrong] at hrad ⊢
      have h1 := nodup_sub_len (lostB (zs ++ [(d : Int)])) ((d : Int) :: lostB zs) (lost_nodup _) (fun x hx => by
        rw [lost_mem, List.mem_append, List.mem_singleton] at hx
        rw [List.mem_cons, lost_mem]
        exact hx.symm)
      have h2 := nodup_sub_len (d :: errsOf W o (lostB (zs ++ [(d : Int)]))) (errsOf W o (lostB zs)) (by
        rw [List.nodup_cons]
        refine ⟨fun h => ?_, List.Pairwise.filter _ (diffs_nodup W o)⟩
        unfold errsOf at h
        rw [List.mem_filter, Bool.not_eq_true', List.contains_eq_mem, decide_eq_false_iff_not, lost_mem] at h
        exact h.2 (by simp)) (fun x hx => by
        unfold errsOf
        rw [List.mem_filter, Bool.not_eq_true', List.contains_eq_mem, decide_eq_false_iff_not, lost_mem]
        rcases List.mem_cons.1 hx with e | e
        · rw [e]; exact ⟨hd, hin⟩
        · unfold errsOf at e
          rw [List.mem_filter, Bool.not_eq_true', List.contains_eq_mem, decide_eq_false_iff_not, lost_mem] at e
          exact ⟨e.1, fun c => e.2 (List.mem_append_left _ c)⟩)
      simp only [List.length_cons] at h1 h2
      omega
end Go.Proofs.Ytamkahjdedomlaa
