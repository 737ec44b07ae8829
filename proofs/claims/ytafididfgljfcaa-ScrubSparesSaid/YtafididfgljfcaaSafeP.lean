/-
  What Safe computes. No program in sight.
-/
import Derived.Test.YtafididfgljfcaaRAssP
namespace Go.Proofs.Ytafididfgljfcaa
open Go.RowKit
set_option linter.unusedVariables false

theorem putK_twice {κ α : Type} [DecidableEq κ] (l : List (κ × α)) (x : κ) (u v : α) : putK (putK l x u) x v = putK l x v := by
  induction l with
  | nil => simp [putK]
  | cons p l ih =>
    obtain ⟨z, t⟩ := p
    simp only [putK]
    by_cases h : z = x
    · rw [if_pos h, if_pos h]; simp [putK]
    · rw [if_neg h, if_neg h]
      simp only [putK]
      rw [if_neg h, ih]
/-- What is kept: how many reels each group needs, and the reels on which blocks of it were found. -/
abbrev SSt := List (Gr × Int) × List (Gr × List (Int × Bool))
def needOf (f : Fr) : Int := if f.kind = 66 then f.data else 1
def sopen (st : SSt) (f : Fr) : SSt := match getK st.2 f.group with
  | none => (putK st.1 f.group (needOf f), putK st.2 f.group [])
  | some _ => st
def smark (found : List (Fr × Int)) (st : SSt) (f : Fr) : SSt := match getK found f with
  | none => st
  | some _ => (st.1, putK st.2 f.group (putK ((getK st.2 f.group).getD []) f.reel true))
def sstep (found : List (Fr × Int)) (st : SSt) (f : Fr) : SSt := smark found (sopen st f) f
def sst (found : List (Fr × Int)) (fs : List Fr) : SSt := fs.foldl (sstep found) ([], [])
theorem sst_snoc (found : List (Fr × Int)) (fs : List Fr) (k : Nat) (s : Fr) (h : fs[k]? = some s) : sst found (fs.take (k + 1)) = sstep found (sst found (fs.take k)) s := by
  have : fs.take (k + 1) = fs.take k ++ [s] := by rw [List.take_add_one, h]; rfl
  rw [this]; unfold sst; rw [List.foldl_append]; rfl
def SGood (st : SSt) (p : Gr × Int) : Prop := p.2 ≤ (((getK st.2 p.1).getD []).length : Int)
def safeL (l : List Sg) (fs : List Fr) : Bool := (sst (countsL l) fs).1.all fun p => decide (p.2 ≤ (((getK (sst (countsL l) fs).2 p.1).getD []).length : Int))

/-! What it means. -/
/-- The needs and the reels after a prefix of the frames. -/
structure SInv (found : List (Fr × Int)) (fs : List Fr) (st : SSt) : Prop where
  need : ∀ g, getK st.1 g = (fs.find? fun f => decide (f.group = g)).map needOf
  keys : ∀ g, getK st.2 g = none ↔ ∀ f ∈ fs, f.group ≠ g
  nodup : ∀ g m, getK st.2 g = some m → (m.map (·.1)).Nodup
  mem : ∀ g m, getK st.2 g = some m → ∀ x, x ∈ m.map (·.1) ↔ ∃ f ∈ fs, f.group = g ∧ f.reel = x ∧ getK found f ≠ none
theorem find_none_iff (fs : List Fr) (g : Gr) : (fs.find? fun f => decide (f.group = g)) = none ↔ ∀ f ∈ fs, f.group ≠ g := by
  rw [List.find?_eq_none]
  exact ⟨fun h f hf e => h f hf (decide_eq_true e), fun h f hf e => h f hf (of_decide_eq_true e)⟩
theorem sstep_inv {found : List (Fr × Int)} {fs : List Fr} {st : SSt} (h : SInv found fs st) (s : Fr) : SInv found (fs ++ [s]) (sstep found st s) := by
  have hfind : ∀ g, ((fs ++ [s]).find? fun f => decide (f.group = g)).map needOf = match (fs.find? fun f => decide (f.group = g)) with | some f => some (needOf f) | none => if s.group = g then some (needOf s) else none := by
    intro g
    rw [List.find?_append]
    cases fs.find? (fun f => decide (f.group = g)) with
    | some f => rfl
    | none =>
      by_cases c : s.group = g
      · rw [if_pos c]; simp [c]
      · rw [if_neg c]; simp [c]
  have hmem : ∀ (p : Fr → Prop), (∃ f ∈ fs ++ [s], p f) ↔ (∃ f ∈ fs, p f) ∨ p s := by
    intro p
    constructor
    · rintro ⟨f, hf, hp⟩
      rcases List.mem_append.1 hf with h1 | h1
      · exact Or.inl ⟨f, h1, hp⟩
      · rw [List.mem_singleton] at h1; subst h1; exact Or.inr hp
    · rintro (⟨f, hf, hp⟩ | hp)
      · exact ⟨f, List.mem_append_left _ hf, hp⟩
      · exact ⟨s, by simp, hp⟩
  have hall : ∀ (p : Fr → Prop), (∀ f ∈ fs ++ [s], p f) ↔ (∀ f ∈ fs, p f) ∧ p s := by
    intro p
    constructor
    · intro h1; exact ⟨fun f hf => h1 f (List.mem_append_left _ hf), h1 s (by simp)⟩
    · rintro ⟨h1, h2⟩ f hf
      rcases List.mem_append.1 hf with h3 | h3
      · exact h1 f h3
      · rw [List.mem_singleton] at h3; subst h3; exact h2
  -- the state after the opening
  have h1 : (∀ g, getK (sopen st s).1 g = ((fs ++ [s]).find? fun f => decide (f.group = g)).map needOf) ∧ (∀ g, getK (sopen st s).2 g = none ↔ ∀ f ∈ fs ++ [s], f.group ≠ g) ∧
      (∀ g m, getK (sopen st s).2 g = some m → (m.map (·.1)).Nodup) ∧ (∀ g m, getK (sopen st s).2 g = some m → ∀ x, x ∈ m.map (·.1) ↔ ∃ f ∈ fs, f.group = g ∧ f.reel = x ∧ getK found f ≠ none) := by
    unfold sopen
    cases hg : getK st.2 s.group with
    | none =>
      have hno := (h.keys s.group).1 hg
      have hfn := (find_none_iff fs s.group).2 hno
      refine ⟨fun g => ?_, fun g => ?_, fun g m hm => ?_, fun g m hm x => ?_⟩
      · simp only
        rw [getK_put, hfind]
        by_cases c : g = s.group
        · subst c; rw [if_pos rfl, hfn]; simp
        · rw [if_neg c, h.need g]
          cases fs.find? (fun f => decide (f.group = g)) with
          | some f => rfl
          | none => simp only; rw [if_neg (fun e => c e.symm)]; rfl
      · simp only
        rw [getK_put, hall]
        by_cases c : g = s.group
        · subst c; rw [if_pos rfl]; simp
        · rw [if_neg c, h.keys g]
          exact ⟨fun h1 => ⟨h1, fun e => c e.symm⟩, fun h1 => h1.1⟩
      · simp only at hm
        rw [getK_put] at hm
        by_cases c : g = s.group
        · rw [if_pos c] at hm; cases hm; simp
        · rw [if_neg c] at hm; exact h.nodup g m hm
      · simp only at hm
        rw [getK_put] at hm
        by_cases c : g = s.group
        · rw [if_pos c] at hm; cases hm
          subst c
          constructor
          · intro hx; simp at hx
          · rintro ⟨f, hf, e, _⟩; exact absurd e (hno f hf)
        · rw [if_neg c] at hm; exact h.mem g m hm x
    | some m0 =>
      have hyes : ∃ f ∈ fs, f.group = s.group := by
        apply Classical.byContradiction
        intro hn
        have : getK st.2 s.group = none := (h.keys s.group).2 fun f hf e => hn ⟨f, hf, e⟩
        rw [hg] at this; cases this
      refine ⟨fun g => ?_, fun g => ?_, fun g m hm => h.nodup g m hm, fun g m hm x => h.mem g m hm x⟩
      · simp only
        rw [hfind, h.need g]
        cases hq : fs.find? (fun f => decide (f.group = g)) with
        | some f => rfl
        | none =>
          have := (find_none_iff fs g).1 hq
          have c : ¬ s.group = g := by
            obtain ⟨f, hf, e⟩ := hyes
            intro e2; exact this f hf (e.trans e2)
          simp only
          rw [if_neg c]; rfl
      · simp only
        rw [h.keys g, hall]
        refine ⟨fun h1 => ⟨h1, fun e => ?_⟩, fun h1 => h1.1⟩
        obtain ⟨f, hf, e3⟩ := hyes
        exact h1 f hf (e3.trans e)
  obtain ⟨a1, a2, a3, a4⟩ := h1
  have hsome : ∃ m0, getK (sopen st s).2 s.group = some m0 := by
    cases hq : getK (sopen st s).2 s.group with
    | some m => exact ⟨m, rfl⟩
    | none => exact absurd rfl ((a2 s.group).1 hq s (by simp))
  obtain ⟨m0, hm0⟩ := hsome
  unfold sstep smark
  cases hf : getK found s with
  | none =>
    refine ⟨a1, a2, a3, fun g m hm x => ?_⟩
    simp only at hm
    rw [a4 g m hm x, hmem]
    refine ⟨Or.inl, ?_⟩
    rintro (h1 | ⟨_, _, h1⟩)
    · exact h1
    · exact absurd hf h1
  | some c =>
    simp only [hm0, Option.getD_some]
    refine ⟨a1, fun g => ?_, fun g m hm => ?_, fun g m hm x => ?_⟩
    · simp only
      rw [getK_put]
      by_cases c : g = s.group
      · subst c; rw [if_pos rfl]
        refine ⟨fun h1 => (by cases h1), fun h1 => absurd rfl (h1 s (by simp))⟩
      · rw [if_neg c]; exact a2 g
    · simp only at hm
      rw [getK_put] at hm
      by_cases c : g = s.group
      · rw [if_pos c] at hm; cases hm; exact nodup_put _ _ _ (a3 _ _ hm0)
      · rw [if_neg c] at hm; exact a3 g m hm
    · simp only at hm
      rw [getK_put] at hm
      rw [hmem]
      by_cases c : g = s.group
      · rw [if_pos c] at hm; cases hm
        subst c
        rw [mem_keys_put, a4 _ _ hm0]
        constructor
        · rintro (rfl | h1)
          · exact Or.inr ⟨rfl, rfl, by rw [hf]; exact Option.some_ne_none _⟩
          · exact Or.inl h1
        · rintro (h1 | ⟨_, h1, _⟩)
          · exact Or.inr h1
          · exact Or.inl h1.symm
      · rw [if_neg c] at hm
        rw [a4 g m hm x]
        refine ⟨Or.inl, ?_⟩
        rintro (h1 | ⟨h1, _⟩)
        · exact h1
        · exact absurd h1.symm c
theorem sst_inv (found : List (Fr × Int)) (fs : List Fr) : SInv found fs (sst found fs) := by
  suffices H : ∀ (n : Nat) (fs : List Fr), fs.length = n → SInv found fs (sst found fs) from H _ fs rfl
  intro n
  induction n with
  | zero =>
    intro fs h
    rw [List.eq_nil_of_length_eq_zero h]
    exact ⟨fun g => rfl, fun g => ⟨fun _ f hf => by simp at hf, fun _ => rfl⟩, fun g m hm => (by cases hm), fun g m hm => (by cases hm)⟩
  | succ n ih =>
    intro fs h
    obtain ⟨s, hs⟩ : ∃ s, fs[n]? = some s := ⟨_, List.getElem?_eq_getElem (by omega)⟩
    have e1 := sst_snoc found fs n s hs
    have e2 : fs.take (n + 1) = fs.take n ++ [s] := by rw [List.take_add_one, hs]; rfl
    rw [List.take_of_length_le (by omega)] at e1 e2
    rw [e1]
    have := sstep_inv (ih (fs.take n) (by rw [List.length_take]; omega)) s
    rw [← e2] at this; exact this
/-- The keys of the two are the same. -/
theorem sst_keys (found : List (Fr × Int)) (fs : List Fr) (g : Gr) (n : Int) (h : getK (sst found fs).1 g = some n) : getK (sst found fs).2 g ≠ none := by
  have hi := sst_inv found fs
  intro h2
  have := (find_none_iff fs g).2 ((hi.keys g).1 h2)
  rw [hi.need g, this] at h
  cases h
theorem sst_len1 (found : List (Fr × Int)) (fs : List Fr) : (sst found fs).1.length ≤ fs.length ∧ (sst found fs).2.length ≤ fs.length ∧ ∀ g m, getK (sst found fs).2 g = some m → m.length ≤ fs.length := by
  suffices H : ∀ (fs : List Fr) (st : SSt) (n : Nat), st.1.length ≤ n → st.2.length ≤ n → (∀ g m, getK st.2 g = some m → m.length ≤ n) →
      (fs.foldl (sstep found) st).1.length ≤ n + fs.length ∧ (fs.foldl (sstep found) st).2.length ≤ n + fs.length ∧ ∀ g m, getK (fs.foldl (sstep found) st).2 g = some m → m.length ≤ n + fs.length from by
    have := H fs ([], []) 0 (by simp) (by simp) (fun g m hm => by cases hm)
    simp only [Nat.zero_add] at this
    exact this
  intro fs
  induction fs with
  | nil => intro st n h1 h2 h3; exact ⟨h1, h2, h3⟩
  | cons s fs ih =>
    intro st n h1 h2 h3
    have hs : (sopen st s).1.length ≤ n + 1 ∧ (sopen st s).2.length ≤ n + 1 ∧ (∀ g m, getK (sopen st s).2 g = some m → m.length ≤ n) ∧ (getK (sopen st s).2 s.group ≠ none) := by
      unfold sopen
      cases hg : getK st.2 s.group with
      | none =>
        simp only
        refine ⟨Nat.le_trans (putK_len _ _ _) (by omega), Nat.le_trans (putK_len _ _ _) (by omega), fun g m hm => ?_, by rw [getK_put, if_pos rfl]; exact Option.some_ne_none _⟩
        rw [getK_put] at hm
        by_cases c : g = s.group
        · rw [if_pos c] at hm; cases hm; simp
        · rw [if_neg c] at hm; exact h3 g m hm
      | some m0 => exact ⟨by simp only; omega, by simp only; omega, h3, by simp only; rw [hg]; exact Option.some_ne_none _⟩
    have hm2 : (sstep found st s).1.length ≤ n + 1 ∧ (sstep found st s).2.length ≤ n + 1 ∧ (∀ g m, getK (sstep found st s).2 g = some m → m.length ≤ n + 1) := by
      unfold sstep smark
      cases hf : getK found s with
      | none => exact ⟨hs.1, hs.2.1, fun g m hm => by have := hs.2.2.1 g m hm; omega⟩
      | some c =>
        simp only
        refine ⟨hs.1, ?_, fun g m hm => ?_⟩
        · have hk : s.group ∈ (sopen st s).2.map (·.1) := by
            rw [← getK_mem]
            cases hq : getK (sopen st s).2 s.group with
            | none => exact absurd hq hs.2.2.2
            | some v => exact ⟨v, rfl⟩
          have := congrArg List.length (keys_put_old (sopen st s).2 s.group (putK ((getK (sopen st s).2 s.group).getD []) s.reel true) hk)
          simp only [List.length_map] at this
          omega
        · rw [getK_put] at hm
          by_cases c : g = s.group
          · rw [if_pos c] at hm; cases hm
            refine Nat.le_trans (putK_len _ _ _) ?_
            cases hq : getK (sopen st s).2 s.group with
            | none => simp
            | some v => have := hs.2.2.1 _ _ hq; simp only [Option.getD_some]; omega
          · rw [if_neg c] at hm; have := hs.2.2.1 g m hm; omega
    rw [List.foldl_cons, List.length_cons]
    have := ih (sstep found st s) (n + 1) hm2.1 hm2.2.1 hm2.2.2
    have e : n + 1 + fs.length = n + (fs.length + 1) := by omega
    rw [e] at this; exact this
end Go.Proofs.Ytafididfgljfcaa
