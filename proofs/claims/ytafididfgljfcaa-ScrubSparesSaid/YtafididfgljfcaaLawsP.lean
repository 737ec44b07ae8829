/-
  What Monotone, Order and Spares ask of what Assess and Safe compute. No program in sight.
-/
import Derived.Test.YtafididfgljfcaaSafeP
namespace Go.Proofs.Ytafididfgljfcaa
open Go.RowKit
set_option linter.unusedVariables false

theorem bfold_spec (f : Fr) (l : List Sg) (b : Option Int) : (l.foldl (bstep f) b = none ↔ b = none ∧ ∀ s ∈ l, s.frame ≠ f) ∧
    ∀ n, l.foldl (bstep f) b = some n → (∀ m, b = some m → n ≤ m) ∧ ∀ s ∈ l, s.frame = f → n ≤ s.corr := by
  induction l generalizing b with
  | nil => exact ⟨by simp, fun n h => ⟨fun m hm => by simp only [List.foldl_nil] at h; rw [hm] at h; cases h; exact Int.le_refl _, fun s hs => by simp at hs⟩⟩
  | cons s l ih =>
    obtain ⟨h1, h2⟩ := ih (bstep f b s)
    simp only [List.foldl_cons]
    refine ⟨h1.trans ?_, fun n hn => ?_⟩
    · unfold bstep
      by_cases c : s.frame = f
      · rw [if_pos c]
        constructor
        · rintro ⟨h3, _⟩
          cases b with
          | none => cases h3
          | some m => simp only at h3; split at h3 <;> cases h3
        · rintro ⟨_, h3⟩
          exact absurd c (h3 s (by simp))
      · rw [if_neg c]
        constructor
        · rintro ⟨h3, h4⟩
          refine ⟨h3, fun t ht => ?_⟩
          rcases List.mem_cons.1 ht with rfl | ht
          · exact c
          · exact h4 t ht
        · rintro ⟨h3, h4⟩
          exact ⟨h3, fun t ht => h4 t (by simp [ht])⟩
    · obtain ⟨h3, h4⟩ := h2 n hn
      have h5 : (∀ m, b = some m → n ≤ m) ∧ (s.frame = f → n ≤ s.corr) := by
        unfold bstep at h3
        by_cases c : s.frame = f
        · rw [if_pos c] at h3
          cases b with
          | none => exact ⟨fun m hm => (by cases hm), fun _ => h3 _ rfl⟩
          | some m =>
            simp only at h3
            by_cases d : s.corr < m
            · rw [if_pos d] at h3
              have := h3 _ rfl
              exact ⟨fun m' hm' => by cases hm'; omega, fun _ => this⟩
            · rw [if_neg d] at h3
              have := h3 _ rfl
              exact ⟨fun m' hm' => by cases hm'; exact this, fun _ => by omega⟩
        · rw [if_neg c] at h3
          exact ⟨h3, fun e => absurd e c⟩
      refine ⟨h5.1, fun t ht e => ?_⟩
      rcases List.mem_cons.1 ht with rfl | ht
      · exact h5.2 e
      · exact h4 t ht e
theorem best_none (l : List Sg) (f : Fr) : best l f = none ↔ ∀ s ∈ l, s.frame ≠ f := by
  have := (bfold_spec f l none).1
  exact this.trans ⟨fun h => h.2, fun h => ⟨rfl, h⟩⟩
theorem best_le (l : List Sg) (f : Fr) (n : Int) (h : best l f = some n) (s : Sg) (hs : s ∈ l) (e : s.frame = f) : n ≤ s.corr := ((bfold_spec f l none).2 n h).2 s hs e
theorem best_congr (l l' : List Sg) (h : ∀ s, s ∈ l ↔ s ∈ l') (f : Fr) : best l f = best l' f := by
  cases hb : best l f with
  | none => exact ((best_none l' f).2 fun s hs => (best_none l f).1 hb s ((h s).2 hs)).symm
  | some n =>
    cases hb' : best l' f with
    | none =>
      have : best l f = none := (best_none l f).2 fun s hs => (best_none l' f).1 hb' s ((h s).1 hs)
      rw [this] at hb; cases hb
    | some n' =>
      obtain ⟨s, hs, e, rfl⟩ := best_mem l f n hb
      obtain ⟨s', hs', e', rfl⟩ := best_mem l' f n' hb'
      have h1 := best_le l f _ hb s' ((h s').2 hs') e'
      have h2 := best_le l' f _ hb' s ((h s).1 hs) e
      rw [show s.corr = s'.corr by omega]
theorem best_mono (l l' : List Sg) (h : ∀ s, s ∈ l' → s ∈ l) (f : Fr) (hn : best l' f ≠ none) : best l f ≠ none := fun e => hn ((best_none l' f).2 fun s hs => (best_none l f).1 e s (h s hs))

/-! The lists of frames. -/
theorem dfold_sub (gs D : List Fr) (h : ∀ g ∈ gs, g ∈ D) : gs.foldl dstep D = D := by
  induction gs with
  | nil => rfl
  | cons g gs ih =>
    rw [List.foldl_cons]
    have : dstep D g = D := if_pos (h g (by simp))
    rw [this]
    exact ih fun x hx => h x (by simp [hx])
theorem distL_twice (fs : List Fr) : distL (fs ++ fs) = distL fs := by
  have : distL (fs ++ fs) = fs.foldl dstep (distL fs) := by unfold distL; rw [List.foldl_append]
  rw [this]
  exact dfold_sub _ _ fun g hg => (distL_mem fs g).2 hg

/-! One reel's condition, with more and with fewer sightings. -/
theorem oneL_mono (l l' : List Sg) (h : ∀ s, s ∈ l' → s ∈ l) (D : List Fr) (r : Int) :
    (oneL l D r).reel = r ∧ (oneL l' D r).reel = r ∧ (oneL l D r).missing ≤ (oneL l' D r).missing ∧ (oneL l D r).found + (oneL l D r).missing = (oneL l' D r).found + (oneL l' D r).missing := by
  suffices H : ∀ (D : List Fr) (a b : He), a.reel = r → b.reel = r → a.missing ≤ b.missing → a.found + a.missing = b.found + b.missing →
      (D.foldl (ostep l r) a).reel = r ∧ (D.foldl (ostep l' r) b).reel = r ∧ (D.foldl (ostep l r) a).missing ≤ (D.foldl (ostep l' r) b).missing ∧ (D.foldl (ostep l r) a).found + (D.foldl (ostep l r) a).missing = (D.foldl (ostep l' r) b).found + (D.foldl (ostep l' r) b).missing from
    H D _ _ rfl rfl (Int.le_refl _) rfl
  intro D
  induction D with
  | nil => intro a b h1 h2 h3 h4; exact ⟨h1, h2, h3, h4⟩
  | cons f D ih =>
    intro a b h1 h2 h3 h4
    rw [List.foldl_cons, List.foldl_cons]
    unfold ostep
    by_cases c : f.reel = r
    · simp only [if_pos c]
      cases hb : best l f with
      | none =>
        have hb' : best l' f = none := (best_none l' f).2 fun s hs => (best_none l f).1 hb s (h s hs)
        rw [hb']
        exact ih _ _ h1 h2 (by simp only; omega) (by simp only; omega)
      | some n =>
        cases hb' : best l' f with
        | none => exact ih _ _ h1 h2 (by simp only; omega) (by simp only; omega)
        | some n' => exact ih _ _ h1 h2 h3 (by simp only; omega)
    · simp only [if_neg c]
      exact ih _ _ h1 h2 h3 h4
theorem oneL_congr (l l' : List Sg) (h : ∀ s, s ∈ l ↔ s ∈ l') (D : List Fr) (r : Int) : oneL l D r = oneL l' D r := by
  have : ostep l r = ostep l' r := by
    funext a f
    unfold ostep
    rw [best_congr l l' h f]
  unfold oneL; rw [this]

/-! Safe. -/
theorem getK_to_mem {κ α : Type} [DecidableEq κ] (l : List (κ × α)) (x : κ) (v : α) (h : getK l x = some v) : (x, v) ∈ l := by
  induction l with
  | nil => cases h
  | cons p l ih =>
    obtain ⟨y, u⟩ := p
    simp only [getK] at h
    by_cases c : y = x
    · rw [if_pos c] at h; cases h; rw [c]; simp
    · rw [if_neg c] at h; exact List.mem_cons_of_mem _ (ih h)
theorem sst_nodup (found : List (Fr × Int)) (fs : List Fr) : ((sst found fs).1.map (·.1)).Nodup := by
  suffices H : ∀ (fs : List Fr) (st : SSt), (st.1.map (·.1)).Nodup → ((fs.foldl (sstep found) st).1.map (·.1)).Nodup from H fs ([], []) List.nodup_nil
  intro fs
  induction fs with
  | nil => intro st h; exact h
  | cons f fs ih =>
    intro st h
    rw [List.foldl_cons]
    refine ih _ ?_
    have h1 : ((sopen st f).1.map (·.1)).Nodup := by
      unfold sopen
      cases getK st.2 f.group with
      | none => exact nodup_put _ _ _ h
      | some m => exact h
    unfold sstep smark
    cases getK found f with
    | none => exact h1
    | some c => exact h1
def SafeP (l : List Sg) (fs : List Fr) : Prop := ∀ (g : Gr) (n : Int), (fs.find? fun f => decide (f.group = g)).map needOf = some n → ∃ R : List Int, R.Nodup ∧ (∀ x ∈ R, ∃ f ∈ fs, f.group = g ∧ f.reel = x ∧ best l f ≠ none) ∧ n ≤ (R.length : Int)
theorem safeL_iff (l : List Sg) (fs : List Fr) : safeL l fs = true ↔ SafeP l fs := by
  have hi := sst_inv (countsL l) fs
  have hnd := sst_nodup (countsL l) fs
  unfold safeL
  rw [List.all_eq_true]
  constructor
  · intro h g n hn
    rw [← hi.need g] at hn
    have h1 := of_decide_eq_true (h _ (getK_to_mem _ _ _ hn))
    simp only at h1
    cases hm : getK (sst (countsL l) fs).2 g with
    | none => exact absurd hm (sst_keys _ _ g n hn)
    | some m =>
      rw [hm] at h1
      refine ⟨m.map (·.1), hi.nodup g m hm, fun x hx => ?_, by simpa using h1⟩
      obtain ⟨f, hf, e1, e2, e3⟩ := (hi.mem g m hm x).1 hx
      exact ⟨f, hf, e1, e2, by rw [← getK_counts]; exact e3⟩
  · intro h p hp
    obtain ⟨g, n⟩ := p
    have hg := getK_of_mem _ hnd g n hp
    cases hm : getK (sst (countsL l) fs).2 g with
    | none => exact absurd hm (sst_keys _ _ g n hg)
    | some m =>
      refine decide_eq_true ?_
      simp only
      obtain ⟨R, hR, hRm, hRn⟩ := h g n (by rw [← hi.need g]; exact hg)
      have hle : R.length ≤ (m.map (·.1)).length := hR.length_le_of_subset fun x hx => by
        obtain ⟨f, hf, e1, e2, e3⟩ := hRm x hx
        exact (hi.mem g m hm x).2 ⟨f, hf, e1, e2, by rw [getK_counts]; exact e3⟩
      rw [List.length_map] at hle
      simp only [Option.getD_some]
      omega
theorem safeL_mono (l l' : List Sg) (h : ∀ s, s ∈ l' → s ∈ l) (fs : List Fr) (hs : safeL l' fs = true) : safeL l fs = true := by
  rw [safeL_iff] at hs ⊢
  intro g n hn
  obtain ⟨R, h1, h2, h3⟩ := hs g n hn
  refine ⟨R, h1, fun x hx => ?_, h3⟩
  obtain ⟨f, hf, e1, e2, e3⟩ := h2 x hx
  exact ⟨f, hf, e1, e2, best_mono l l' h f e3⟩
theorem safeL_order (l l' : List Sg) (h : ∀ s, s ∈ l ↔ s ∈ l') (fs : List Fr) : safeL l fs = safeL l' (fs ++ fs) := by
  rw [Bool.eq_iff_iff, safeL_iff, safeL_iff]
  have hf : ∀ g, ((fs ++ fs).find? fun f => decide (f.group = g)) = fs.find? fun f => decide (f.group = g) := by
    intro g
    rw [List.find?_append]
    cases fs.find? (fun f => decide (f.group = g)) <;> rfl
  have hm : ∀ x, x ∈ fs ++ fs ↔ x ∈ fs := fun x => by simp
  constructor
  · intro hs g n hn
    rw [hf g] at hn
    obtain ⟨R, h1, h2, h3⟩ := hs g n hn
    refine ⟨R, h1, fun x hx => ?_, h3⟩
    obtain ⟨f, hf, e1, e2, e3⟩ := h2 x hx
    exact ⟨f, (hm f).2 hf, e1, e2, by rw [← best_congr l l' h f]; exact e3⟩
  · intro hs g n hn
    rw [← hf g] at hn
    obtain ⟨R, h1, h2, h3⟩ := hs g n hn
    refine ⟨R, h1, fun x hx => ?_, h3⟩
    obtain ⟨f, hf, e1, e2, e3⟩ := h2 x hx
    exact ⟨f, (hm f).1 hf, e1, e2, by rw [best_congr l l' h f]; exact e3⟩
theorem assessL_order (l l' : List Sg) (hl : ∀ s ∈ l, 0 ≤ s.corr) (h : ∀ s, s ∈ l ↔ s ∈ l') (fs : List Fr) : assessL l fs = assessL l' (fs ++ fs) := by
  rw [assessL_ref l hl fs, assessL_ref l' (fun s hs => hl s ((h s).2 hs)) (fs ++ fs), distL_twice]
  exact congrArg (fun g => (reelsL (distL fs)).map g) (funext fun r => oneL_congr l l' h (distL fs) r)
end Go.Proofs.Ytafididfgljfcaa
