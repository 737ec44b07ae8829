/-
  The plain part of ScrubReserve: every frame sighted without corrections.
-/
import Derived.Test.YtafididfgljfcaaAwk
import Derived.Test.YtafididfgljfcaaOpS
namespace Go.Proofs.Ytafididfgljfcaa
open Go.RowKit
set_option linter.unusedVariables false
theorem built_at (k : Int) (f : Fr) : Try.prog.built 43 [(1, iv k), (2, f.v)] = some (Sg.cs ⟨0, k, f, 0, 0, 0⟩).toArray := by kernel_rfl
def sight (l : List Fr) : List Sg := l.zipIdx.map fun p => ⟨0, (p.2 : Int), p.1, 0, 0, 0⟩
theorem sight_len (l : List Fr) : (sight l).length = l.length := by unfold sight; simp
theorem sight_get (l : List Fr) (k : Nat) (f : Fr) (h : l[k]? = some f) : (sight l)[k]? = some ⟨0, (k : Int), f, 0, 0, 0⟩ := by
  unfold sight
  rw [List.getElem?_map, List.getElem?_zipIdx, h]; simp
theorem sight_mem (l : List Fr) (s : Sg) (h : s ∈ sight l) : s.corr = 0 ∧ s.frame ∈ l := by
  obtain ⟨p, hp, rfl⟩ := List.mem_map.1 h
  refine ⟨rfl, ?_⟩
  have := List.mem_zipIdx_iff_getElem?.1 hp
  exact List.mem_of_getElem? this
theorem mem_sight (l : List Fr) (f : Fr) (h : f ∈ l) : ∃ s ∈ sight l, s.frame = f := by
  obtain ⟨k, hk⟩ := List.mem_iff_getElem?.1 h
  exact ⟨_, List.mem_of_getElem? (sight_get l k f hk), rfl⟩
theorem best_some (l : List Sg) (f : Fr) (h : ∃ s ∈ l, s.frame = f) : ∃ n, best l f = some n := by
  have keep : ∀ (l : List Sg) (n : Int), ∃ m, l.foldl (bstep f) (some n) = some m := by
    intro l
    induction l with
    | nil => intro n; exact ⟨n, rfl⟩
    | cons s l ih =>
      intro n
      rw [List.foldl_cons]
      unfold bstep
      by_cases c : s.frame = f
      · rw [if_pos c]
        simp only
        by_cases d : s.corr < n
        · rw [if_pos d]; exact ih _
        · rw [if_neg d]; exact ih _
      · rw [if_neg c]; exact ih _
  suffices H : ∀ (l : List Sg) (b : Option Int), (∃ s ∈ l, s.frame = f) → ∃ n, l.foldl (bstep f) b = some n from H l none h
  intro l
  induction l with
  | nil => intro b h; obtain ⟨s, hs, _⟩ := h; cases hs
  | cons s l ih =>
    intro b h
    rw [List.foldl_cons]
    by_cases c : s.frame = f
    · have : ∃ n, bstep f b s = some n := by
        unfold bstep
        rw [if_pos c]
        cases b with
        | none => exact ⟨_, rfl⟩
        | some n =>
          simp only
          by_cases d : s.corr < n
          · rw [if_pos d]; exact ⟨_, rfl⟩
          · rw [if_neg d]; exact ⟨_, rfl⟩
      obtain ⟨n, hn⟩ := this
      rw [hn]; exact keep l n
    · refine ih _ ?_
      obtain ⟨t, ht, e⟩ := h
      rcases List.mem_cons.1 ht with rfl | ht
      · exact absurd e c
      · exact ⟨t, ht, e⟩
theorem found_sight (l : List Fr) (f : Fr) (h : f ∈ l) : getK (countsL (sight l)) f = some 0 := by
  rw [getK_counts]
  obtain ⟨n, hn⟩ := best_some (sight l) f (mem_sight l f h)
  obtain ⟨s, hs, _, e⟩ := best_mem _ _ _ hn
  rw [hn, ← e, (sight_mem l s hs).1]
structure Clean (h : He) : Prop where
  found : 1 ≤ h.found
  missing : h.missing = 0
  worst : h.worst = 0
  corr : h.corr = 0
theorem assessM_clean (found : List (Fr × Int)) (D : List Fr) (hD : ∀ f ∈ D, getK found f = some 0) (r : Int) (h : He) (hg : getK (assessM found D) r = some h) : Clean h := by
  suffices H : ∀ (D : List Fr) (m : List (Int × He)), (∀ f ∈ D, getK found f = some 0) → (∀ r h, getK m r = some h → Clean h) → ∀ r h, getK (D.foldl (astep found) m) r = some h → Clean h from
    H D [] hD (fun r h hh => by cases hh) r h hg
  intro D
  induction D with
  | nil => intro m _ hm; exact hm
  | cons f D ih =>
    intro m hD hm
    refine ih _ (fun g hg => hD g (List.mem_cons_of_mem _ hg)) ?_
    intro r h hh
    unfold astep at hh
    rw [getK_put] at hh
    by_cases c : r = f.reel
    · rw [if_pos c] at hh
      have e := Option.some.inj hh
      subst e
      unfold hstep
      rw [hD f List.mem_cons_self]
      cases hk : getK m f.reel with
      | none => exact ⟨by show (1 : Int) ≤ 0 + 1; omega, rfl, rfl, rfl⟩
      | some h0 =>
        obtain ⟨a1, a2, a3, a4⟩ := hm _ _ hk
        simp only [Option.getD_some]
        exact ⟨by simp only; omega, by simp only; omega, by simp only; omega, by simp only; omega⟩
    · rw [if_neg c] at hh; exact hm r h hh
theorem assess_clean (l : List Fr) : ∀ h ∈ assessL (sight l) l, Clean h := by
  intro h hh
  unfold assessL at hh
  obtain ⟨r, hr, rfl⟩ := List.mem_map.1 hh
  have hk := (getK_mem _ r).2 ((lost_mem _ r).1 hr)
  obtain ⟨h0, h1⟩ := hk
  rw [h1]
  exact assessM_clean _ _ (fun f hf => found_sight l f ((distL_mem l f).1 hf)) r h0 h1
theorem due_clean_none (l : List He) (h : ∀ x ∈ l, Clean x) (x : Int) (hx : x ≤ 4) : dueL l x = [] := by
  unfold dueL
  rw [List.filter_eq_nil_iff.2 ?_]; rfl
  intro a ha
  obtain ⟨a1, a2, a3, a4⟩ := h a ha
  unfold isDue
  rw [a2, a3]
  simp; omega
theorem due_clean_all (l : List He) (h : ∀ x ∈ l, Clean x) : (dueL l 5).length = l.length := by
  unfold dueL
  rw [List.filter_eq_self.2 ?_, List.length_map]
  intro a ha
  obtain ⟨a1, a2, a3, a4⟩ := h a ha
  unfold isDue
  rw [a2, a3]; rfl
end Go.Proofs.Ytafididfgljfcaa
