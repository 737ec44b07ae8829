/-
  Slices of structs of the call's own: what append leaves, and that they read as their list.
-/
import Derived.Test.YtafididfgljfcaaSg
import Derived.Test.YtafididfgljfcaaBl
import Derived.WalkKit
namespace Go.Proofs.Ytafididfgljfcaa
open Go.RowKit
set_option linter.unusedVariables false

theorem flat_get {α β : Type} (cs : α → List β) (n : Nat) (hn : ∀ x, (cs x).length = n) (l : List α) (i j : Nat) (x : α) (hx : l[i]? = some x) (hj : j < n) : (l.flatMap cs)[i * n + j]? = (cs x)[j]? := by
  induction l generalizing i with
  | nil => simp at hx
  | cons y l ih =>
    rw [List.flatMap_cons]
    cases i with
    | zero =>
      simp only [List.getElem?_cons_zero, Option.some.injEq] at hx
      subst hx
      rw [Nat.zero_mul, Nat.zero_add, List.getElem?_append_left (by rw [hn]; exact hj)]
    | succ i =>
      simp only [List.getElem?_cons_succ] at hx
      rw [List.getElem?_append_right (by rw [hn, Nat.succ_mul]; omega), hn, ← ih i hx]
      congr 1
      rw [Nat.succ_mul]; omega
theorem flat_len {α β : Type} (cs : α → List β) (n : Nat) (hn : ∀ x, (cs x).length = n) (l : List α) : (l.flatMap cs).length = l.length * n := by
  induction l with
  | nil => simp
  | cons y l ih => rw [List.flatMap_cons, List.length_append, hn, ih, List.length_cons, Nat.succ_mul]; omega
theorem isS_of_owns {α : Type} {cs : α → List Value} {n : Nat} {w : World} {base m : Nat} {e : TypeId} {v : Value} {l : List α} (hn : ∀ x, (cs x).length = n) (h : w.ownsRow base e n v m (l.flatMap cs)) (hm : l.length = m) : IsS n cs w v l := by
  subst hm
  have h' := h
  rcases h.2 with ⟨hv, h0⟩ | ⟨g, cap, cur, hv, hb, hg, hnc, hcm, hcs, htake⟩
  · have : l = [] := List.eq_nil_of_length_eq_zero h0
    subst this; subst hv; exact IsS.nil
  · subst hv
    refine ⟨some ⟨g, 0, none⟩, 0, cap, rfl, by omega, fun i x hx => ⟨g, rfl, (Array.getElem?_eq_some_iff.1 hg).1, fun j v hv => ?_⟩⟩
    have hj : j < n := by rw [← hn x]; exact (List.getElem?_eq_some_iff.1 hv).1
    have hi : i < l.length := (List.getElem?_eq_some_iff.1 hx).1
    have hlt : i * n + j < l.length * n := by
      have : (i + 1) * n ≤ l.length * n := Nat.mul_le_mul_right n hi
      rw [Nat.succ_mul] at this; omega
    rw [Nat.zero_add, h'.cellAt _ hlt, flat_get cs n hn l i j x hx hj]; exact hv
theorem ownsS_ne {w : World} {base n size : Nat} {e : TypeId} {v : Value} {cs : List Value} {M : Nat} (h : w.ownsRow base e size v n cs) (hM : M < base) : v.ownBlock = none ∨ v.ownBlock ≠ some M := by
  rcases h.2 with ⟨hv, _⟩ | ⟨g, cap, cur, hv, hgb, _⟩
  · subst hv; exact Or.inl rfl
  · subst hv
    refine Or.inr fun e => ?_
    have e2 : g = M := Option.some.inj e
    omega
theorem ownsS_ne' {w : World} {base n size : Nat} {e : TypeId} {v : Value} {cs : List Value} {M : Nat} (h : w.ownsRow base e size v n cs) (hM : M < base) : some M ≠ v.ownBlock := by
  rcases ownsS_ne h hM with e | e
  · rw [e]; exact fun c => by cases c
  · exact fun c => e c.symm
theorem ownsS_below {w w' : World} {base n size : Nat} {e : TypeId} {v : Value} {cs : List Value} (h : w.ownsRow base e size v n cs) (hb : Below w.heap.size w w') : w'.ownsRow base e size v n cs := by
  refine ⟨h.1, ?_⟩
  rcases h.2 with e | ⟨g, cap, cur, hv, hgb, hg, r⟩
  · exact Or.inl e
  · exact Or.inr ⟨g, cap, cur, hv, hgb, (hb.block g (Array.getElem?_eq_some_iff.1 hg).1).trans hg, r⟩
theorem belowS_grown {w w' : World} {w0 : World} {base B n size : Nat} {e : TypeId} {v : Value} {cs : List Value} (h0 : Below B w0 w) (hown : w.ownsRow base e size v n cs) (hg : w.grownBy w' v.ownBlock) (hB : B ≤ w.heap.size) (hb : B ≤ base) : Below B w0 w' := by
  refine h0.grown hg hB fun k e => ?_
  rcases hown.2 with ⟨hv, _⟩ | ⟨g, cap, cur, hv, hgb, _⟩
  · subst hv; cases e
  · subst hv; cases e; show B ≤ g; omega

/-- 'append(x, y)' for a struct y that lies in a block of its own. -/
theorem wpList_append_S {α : Type} {P : Program} {w : World} {ops : Array Oper} {rest : List Oper} {o : Oper} {a : Act} {Q : Exit → Act → World → Prop} (hgd : o.guard = none) (s x : Operand) (t e : TypeId)
    (ho : o.op = .call { callee := .builtin .append, args := #[s, x], argTypes := #[t, t] }) (ht : P.underlying t = some (.slice e)) (z : Value) (size bytes : Nat) (h2 : (P.info? e).map (fun i => (i.zero, i.size, i.bytes)) = some (some z, size, bytes)) (hz : z.cells.size = size) (hs0 : 0 < size) (hby : bytes ≤ 1000)
    (cs : α → List Value) (hcs : ∀ x, (cs x).length = size) (hone : ∀ x, ∀ u ∈ cs x, u.oneCell' = true)
    (base : Nat) (v : Value) (n : Nat) (L : List α) (hs : a.eval s = v) (hown : w.ownsRow base e size v n (L.flatMap cs)) (hn : L.length = n) (hbase : base ≤ w.heap.size)
    (g cap : Nat) (y : α) (hx : a.eval x = .slice (some ⟨g, 0, none⟩) 1 cap) (hy : w.rangeAt g 0 (cs y)) (hb : n ≤ 100000)
    (h : ∀ v' w', w'.ownsRow base e size v' (n + 1) ((L ++ [y]).flatMap cs) → w.grownBy w' v.ownBlock → wpList P ops Q rest (a.put o.dst v') w') : wpList P ops Q (o :: rest) a w := by
  obtain ⟨i, hi, hz0, hz1, hz2⟩ := info_parts h2
  refine wpList_append_own w hgd s x t ho base e i z size bytes ht hi hz0 hz1 hz2 hz hs0 v n (L.flatMap cs) hs hown ⟨g, 0, none⟩ 1 cap (cs y) hx (by rw [hcs, Nat.one_mul]) ?_ (hone y) (by unfold maxLen; omega) ?_ hbase ?_
  · intro j u hj
    have := hy j u hj
    rw [Nat.zero_add] at this
    have e1 : (⟨g, 0, none⟩ : Addr).add j = ⟨g, j, none⟩ := by unfold Addr.add; split <;> simp_all
    rw [e1]; exact this
  · have : (n + 1) * bytes ≤ 100001 * 1000 := Nat.mul_le_mul (by omega) hby
    omega
  · intro v' w' h1 h2 _
    refine h v' w' ?_ h2
    rw [List.flatMap_append]
    have e2 : [y].flatMap cs = cs y := by simp
    rw [e2]; exact h1
theorem Sg.len (s : Sg) : s.cs.length = 14 := rfl
theorem Fr.len (s : Fr) : s.cs.length = 9 := rfl
theorem He.len (s : He) : s.cs.length = 5 := rfl
theorem Sg.ones (s : Sg) : ∀ v ∈ s.cs, v.oneCell' = true := by intro v hv; simp only [Sg.cs, List.mem_cons, List.not_mem_nil, or_false] at hv; rcases hv with rfl | rfl | rfl | rfl | rfl | rfl | rfl | rfl | rfl | rfl | rfl | rfl | rfl | rfl <;> rfl
theorem Fr.ones (s : Fr) : ∀ v ∈ s.cs, v.oneCell' = true := by intro v hv; simp only [Fr.cs, List.mem_cons, List.not_mem_nil, or_false] at hv; rcases hv with rfl | rfl | rfl | rfl | rfl | rfl | rfl | rfl | rfl <;> rfl
theorem He.ones (s : He) : ∀ v ∈ s.cs, v.oneCell' = true := by intro v hv; simp only [He.cs, List.mem_cons, List.not_mem_nil, or_false] at hv; rcases hv with rfl | rfl | rfl | rfl | rfl <;> rfl
theorem Try.infoF : (Try.prog.info? 39).map (fun i => (i.zero, i.size, i.bytes)) = some (some (.agg #[iv 0, iv 0, iv 0, iv 0, iv 0, iv 0, iv 0, .int .u32 0, .string ⟨#[]⟩]), 9, 80) := by kernel_rfl
theorem Try.infoS : (Try.prog.info? 43).map (fun i => (i.zero, i.size, i.bytes)) = some (some (.agg #[iv 0, iv 0, iv 0, iv 0, iv 0, iv 0, iv 0, iv 0, iv 0, .int .u32 0, .string ⟨#[]⟩, iv 0, iv 0, iv 0]), 14, 120) := by kernel_rfl
theorem Try.infoH : (Try.prog.info? 31).map (fun i => (i.zero, i.size, i.bytes)) = some (some (.agg #[iv 0, iv 0, iv 0, iv 0, iv 0]), 5, 40) := by kernel_rfl

/-! What distinct lays down. -/
def dstep (out : List Fr) (f : Fr) : List Fr := if f ∈ out then out else out ++ [f]
def distL (l : List Fr) : List Fr := l.foldl dstep []
theorem distL_snoc (l : List Fr) (k : Nat) (s : Fr) (h : l[k]? = some s) : distL (l.take (k + 1)) = dstep (distL (l.take k)) s := by
  have : l.take (k + 1) = l.take k ++ [s] := by rw [List.take_add_one, h]; rfl
  rw [this]; unfold distL; rw [List.foldl_append]; rfl
theorem distL_len (l : List Fr) : (distL l).length ≤ l.length := by
  suffices h : ∀ m : List Fr, (l.foldl dstep m).length ≤ m.length + l.length from by have := h []; simp only [List.length_nil, Nat.zero_add] at this; exact this
  induction l with
  | nil => intro m; exact Nat.le_refl _
  | cons s l ih =>
    intro m
    refine Nat.le_trans (ih _) ?_
    have : (dstep m s).length ≤ m.length + 1 := by
      unfold dstep; split
      · omega
      · simp
    simp only [List.length_cons]; omega
theorem dstep_mem (m : List Fr) (f x : Fr) : x ∈ dstep m f ↔ x ∈ m ∨ x = f := by
  unfold dstep; split
  · rename_i h
    constructor
    · exact Or.inl
    · rintro (h1 | rfl)
      · exact h1
      · exact h
  · simp
theorem distL_mem (l : List Fr) (x : Fr) : x ∈ distL l ↔ x ∈ l := by
  suffices h : ∀ m : List Fr, x ∈ l.foldl dstep m ↔ x ∈ m ∨ x ∈ l from by have := h []; simp only [List.not_mem_nil, false_or] at this; exact this
  induction l with
  | nil => intro m; simp
  | cons s l ih =>
    intro m
    rw [List.foldl_cons, ih, dstep_mem, List.mem_cons, or_assoc]
theorem distL_nodup (l : List Fr) : (distL l).Nodup := by
  suffices h : ∀ m : List Fr, m.Nodup → (l.foldl dstep m).Nodup from h [] List.nodup_nil
  induction l with
  | nil => intro m h; exact h
  | cons s l ih =>
    intro m h
    refine ih _ ?_
    unfold dstep; split
    · exact h
    · rename_i hn
      rw [List.nodup_append]
      exact ⟨h, by simp, fun a ha b hb => by simp only [List.mem_singleton] at hb; subst hb; exact fun e => hn (e ▸ ha)⟩
/-- The set of the frames that were seen. -/
def seenL (m : List Fr) : List (Fr × Bool) := m.map fun f => (f, true)
theorem getK_seen (m : List Fr) (f : Fr) : getK (seenL m) f = if f ∈ m then some true else none := by
  induction m with
  | nil => rfl
  | cons g m ih =>
    unfold seenL at ih ⊢
    rw [List.map_cons]
    simp only [getK]
    by_cases h : g = f
    · subst h; rw [if_pos rfl, if_pos List.mem_cons_self]
    · rw [if_neg h, ih]
      by_cases c : f ∈ m
      · rw [if_pos c, if_pos (List.mem_cons_of_mem _ c)]
      · rw [if_neg c, if_neg (fun e => by rcases List.mem_cons.1 e with e | e; exact h e.symm; exact c e)]
theorem dstep_of_seen {D : List Fr} {s : Fr} (h : getK (seenL D) s = some true) : dstep D s = D := by
  rw [getK_seen] at h
  by_cases c : s ∈ D
  · exact if_pos c
  · rw [if_neg c] at h; cases h
theorem putK_same {κ α : Type} [DecidableEq κ] (l : List (κ × α)) (x : κ) (v : α) (h : getK l x = some v) : putK l x v = l := by
  induction l with
  | nil => cases h
  | cons p l ih =>
    obtain ⟨z, u⟩ := p
    simp only [getK] at h
    simp only [putK]
    by_cases c : z = x
    · subst c
      rw [if_pos rfl] at h ⊢
      cases h; rfl
    · rw [if_neg c] at h ⊢
      rw [ih h]
theorem putK_seen (m : List Fr) (f : Fr) : putK (seenL m) f true = seenL (dstep m f) := by
  unfold dstep
  by_cases h : f ∈ m
  · rw [if_pos h, putK_same _ _ _ (by rw [getK_seen, if_pos h])]
  · rw [if_neg h, putK_new]
    · unfold seenL; rw [List.map_append]; rfl
    · rw [← getK_none, getK_seen, if_neg h]
end Go.Proofs.Ytafididfgljfcaa
