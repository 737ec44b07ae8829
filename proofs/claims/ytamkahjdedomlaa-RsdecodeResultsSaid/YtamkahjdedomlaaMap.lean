/-
  A map that the call has made, as the list of its entries in the order in which they came (nothing is ever deleted): look-up, store, len; over any program, keys and elements of any kind.
-/
import Derived.Maps.OwnSet
import Derived.Test.YtamkahjdedomlaaBy
namespace Go.Proofs.Ytamkahjdedomlaa
open Go.RowKit Go.MapKept Go.ChangeMaps
open Go.Maps (Keyed)
set_option linter.unusedVariables false

/-! Lists of pairs. -/
section
variable {κ α : Type} [DecidableEq κ]
def getK : List (κ × α) → κ → Option α
  | [], _ => none
  | (y, v) :: r, x => if y = x then some v else getK r x
def putK : List (κ × α) → κ → α → List (κ × α)
  | [], x, v => [(x, v)]
  | (y, u) :: r, x, v => if y = x then (x, v) :: r else (y, u) :: putK r x v
theorem getK_put (l : List (κ × α)) (x y : κ) (v : α) : getK (putK l x v) y = if y = x then some v else getK l y := by
  induction l with
  | nil =>
    show (if x = y then some v else none) = _
    by_cases h : y = x
    · rw [if_pos h, if_pos h.symm]
    · rw [if_neg h, if_neg (fun e => h e.symm)]; rfl
  | cons p l ih =>
    obtain ⟨z, u⟩ := p
    simp only [putK]
    by_cases h : z = x
    · subst h
      rw [if_pos rfl]
      simp only [getK]
      by_cases c : z = y
      · subst c; rw [if_pos rfl, if_pos rfl]
      · rw [if_neg c, if_neg c, if_neg (fun e => c e.symm)]
    · rw [if_neg h]
      simp only [getK]
      rw [ih]
      by_cases c : z = y
      · subst c; rw [if_pos rfl, if_neg h, if_pos rfl]
      · rw [if_neg c, if_neg c]
theorem mem_keys_put (l : List (κ × α)) (x y : κ) (v : α) : y ∈ (putK l x v).map (·.1) ↔ y = x ∨ y ∈ l.map (·.1) := by
  induction l with
  | nil => simp [putK]
  | cons p l ih =>
    obtain ⟨z, u⟩ := p
    simp only [putK]
    by_cases h : z = x
    · subst h; rw [if_pos rfl]; simp
    · rw [if_neg h]
      simp only [List.map_cons, List.mem_cons, ih]
      constructor
      · rintro (h1 | h1 | h1)
        · exact Or.inr (Or.inl h1)
        · exact Or.inl h1
        · exact Or.inr (Or.inr h1)
      · rintro (h1 | h1 | h1)
        · exact Or.inr (Or.inl h1)
        · exact Or.inl h1
        · exact Or.inr (Or.inr h1)
theorem nodup_put (l : List (κ × α)) (x : κ) (v : α) (h : (l.map (·.1)).Nodup) : ((putK l x v).map (·.1)).Nodup := by
  induction l with
  | nil => simp [putK]
  | cons p l ih =>
    obtain ⟨z, u⟩ := p
    simp only [List.map_cons, List.nodup_cons] at h
    simp only [putK]
    by_cases c : z = x
    · subst c; rw [if_pos rfl]; simp only [List.map_cons, List.nodup_cons]; exact h
    · rw [if_neg c]
      simp only [List.map_cons, List.nodup_cons]
      refine ⟨fun hm => ?_, ih h.2⟩
      rcases (mem_keys_put l x z v).1 hm with e | e
      · exact c e
      · exact h.1 e
theorem getK_mem (l : List (κ × α)) (x : κ) : (∃ v, getK l x = some v) ↔ x ∈ l.map (·.1) := by
  induction l with
  | nil => simp [getK]
  | cons p l ih =>
    obtain ⟨z, u⟩ := p
    simp only [getK, List.map_cons, List.mem_cons]
    by_cases c : z = x
    · subst c; rw [if_pos rfl]; simp
    · rw [if_neg c, ih]
      constructor
      · intro h; exact Or.inr h
      · rintro (h | h)
        · exact absurd h.symm c
        · exact h
theorem getK_none (l : List (κ × α)) (x : κ) : getK l x = none ↔ x ∉ l.map (·.1) := by
  rw [← getK_mem]
  cases getK l x <;> simp
theorem getK_of_mem (l : List (κ × α)) (h : (l.map (·.1)).Nodup) (x : κ) (v : α) (hm : (x, v) ∈ l) : getK l x = some v := by
  induction l with
  | nil => cases hm
  | cons p l ih =>
    obtain ⟨z, u⟩ := p
    simp only [List.map_cons, List.nodup_cons] at h
    simp only [getK]
    rcases List.mem_cons.1 hm with e | e
    · cases e; rw [if_pos rfl]
    · rw [if_neg (fun c => h.1 (by rw [c]; exact List.mem_map.2 ⟨_, e, rfl⟩))]
      exact ih h.2 e
theorem mem_of_getK (l : List (κ × α)) (x : κ) (v : α) (h : getK l x = some v) : (x, v) ∈ l := by
  induction l with
  | nil => cases h
  | cons p l ih =>
    obtain ⟨z, u⟩ := p
    simp only [getK] at h
    by_cases c : z = x
    · subst c; rw [if_pos rfl] at h; cases h; exact List.mem_cons_self
    · rw [if_neg c] at h; exact List.mem_cons_of_mem _ (ih h)
theorem putK_new (l : List (κ × α)) (x : κ) (v : α) (h : x ∉ l.map (·.1)) : putK l x v = l ++ [(x, v)] := by
  induction l with
  | nil => rfl
  | cons p l ih =>
    obtain ⟨z, u⟩ := p
    simp only [List.map_cons, List.mem_cons, not_or] at h
    simp only [putK]
    rw [if_neg (fun e => h.1 e.symm), ih h.2]; rfl
theorem keys_put_old (l : List (κ × α)) (x : κ) (v : α) (h : x ∈ l.map (·.1)) : (putK l x v).map (·.1) = l.map (·.1) := by
  induction l with
  | nil => cases h
  | cons p l ih =>
    obtain ⟨z, u⟩ := p
    simp only [putK]
    by_cases c : z = x
    · subst c; rw [if_pos rfl]; rfl
    · rw [if_neg c]
      simp only [List.map_cons, List.mem_cons] at h ⊢
      rcases h with e | e
      · exact absurd e.symm c
      · rw [ih e]
theorem putK_len (l : List (κ × α)) (x : κ) (v : α) : (putK l x v).length ≤ l.length + 1 := by
  by_cases h : x ∈ l.map (·.1)
  · have := congrArg List.length (keys_put_old l x v h)
    simp only [List.length_map] at this
    omega
  · rw [putK_new l x v h, List.length_append]; exact Nat.le_refl _
/-- What putK does, as 'set' at the place of the key. -/
theorem putK_set (l : List (κ × α)) (x : κ) (v : α) (j : Nat) (u : α) (hn : (l.map (·.1)).Nodup) (hj : l[j]? = some (x, u)) : putK l x v = l.set j (x, v) := by
  induction l generalizing j with
  | nil => simp at hj
  | cons p l ih =>
    obtain ⟨z, u'⟩ := p
    simp only [List.map_cons, List.nodup_cons] at hn
    cases j with
    | zero =>
      simp only [List.getElem?_cons_zero, Option.some.injEq, Prod.mk.injEq] at hj
      simp only [putK]
      rw [if_pos hj.1]; rfl
    | succ j =>
      simp only [List.getElem?_cons_succ] at hj
      have hx : x ∈ l.map (·.1) := List.mem_map.2 ⟨_, List.mem_of_getElem? hj, rfl⟩
      simp only [putK]
      rw [if_neg (fun e => hn.1 (by rw [e]; exact hx)), ih j hn.2 hj]; rfl
end

/-! The map in memory. -/
section
variable {κ α : Type}
structure Enc (P : Program) (kt : TypeId) (ek : κ → Value) : Prop where
  keyed : Keyed P kt
  inj : ∀ x y, ek x = ek y → x = y

/-- The block b is a map with the entries l, in the order in which they came. -/
def MapIs (w : World) (P : Program) (kt : TypeId) (ek : κ → Value) (ev : α → Value) (b : Nat) (l : List (κ × α)) : Prop :=
  ∃ es clock, w.heap[b]? = some (.map es clock) ∧ es.toList.map (fun e => (e.key, e.val)) = l.map (fun p => (ek p.1, ev p.2)) ∧ Stamped es clock ∧ es.size ≤ maxLen ∧ ∀ p ∈ l, ∃ lit, keyOf P kt (ek p.1) = some lit

variable {P : Program} {kt et t : TypeId} {ek : κ → Value} {ev : α → Value} {w : World} {b : Nat} {l : List (κ × α)}

theorem MapIs.made (w : World) (P : Program) (kt : TypeId) (ek : κ → Value) (ev : α → Value) : MapIs (w.alloc (.map #[] 0)) P kt ek ev w.heap.size [] :=
  ⟨#[], 0, (MapKept.heap_alloc w _).1, rfl, stamped_empty 0, by simp, by simp⟩
theorem MapIs.lt (h : MapIs w P kt ek ev b l) : b < w.heap.size := by
  obtain ⟨es, clock, hb, _⟩ := h
  exact (Array.getElem?_eq_some_iff.1 hb).1
theorem MapIs.same {w' : World} (h : MapIs w P kt ek ev b l) (e : w'.heap[b]? = w.heap[b]?) : MapIs w' P kt ek ev b l := by
  obtain ⟨es, clock, hb, r⟩ := h
  exact ⟨es, clock, e.trans hb, r⟩
theorem MapIs.kept {w' : World} (h : MapIs w P kt ek ev b l) (hb : Below w.heap.size w w') : MapIs w' P kt ek ev b l := h.same (hb.block b h.lt)
theorem MapIs.below {B : Nat} {w' : World} (h : MapIs w P kt ek ev b l) (hb : Below B w w') (hlt : b < B) : MapIs w' P kt ek ev b l := h.same (hb.block b hlt)
theorem MapIs.grown {w' : World} {row : Option Nat} (h : MapIs w P kt ek ev b l) (hg : w.grownBy w' row) (hne : some b ≠ row) : MapIs w' P kt ek ev b l := h.same (hg.block b h.lt hne)
theorem MapIs.alloc (h : MapIs w P kt ek ev b l) (o : Obj) : MapIs (w.alloc o) P kt ek ev b l := h.grown (World.grownBy_alloc w o none) (by simp)
theorem MapIs.drewN (h : MapIs w P kt ek ev b l) (n : Nat) : MapIs (w.drewN n) P kt ek ev b l := h
theorem MapIs.drew (h : MapIs w P kt ek ev b l) : MapIs w.drew P kt ek ev b l := h
theorem MapIs.setCell (h : MapIs w P kt ek ev b l) (a : Addr) (ha : a.block ≠ b) (v : Value) : MapIs (w.setCell a v) P kt ek ev b l := h.same (Below.heap_setCell w a v b (fun e => ha e.symm))
theorem MapIs.nodup (E : Enc P kt ek) (h : MapIs w P kt ek ev b l) : (l.map (·.1)).Nodup := by
  obtain ⟨es, clock, _, he, hs, _⟩ := h
  have h1 := hs.2.2
  have h2 : es.toList.map (·.key) = (l.map (·.1)).map ek := by
    have := congrArg (List.map Prod.fst) he
    simpa [List.map_map, Function.comp_def] using this
  rw [h2] at h1
  exact (List.nodup_iff_pairwise_ne.1 h1 |> fun p => by
    rw [List.pairwise_map] at p
    exact p.imp fun hne e => hne (by rw [e]))
theorem MapIs.size_eq (h : MapIs w P kt ek ev b l) (ht : P.underlying t = some (.map kt et)) (ty : TypeId) : (Builtin.len_ #[t] ty #[.map (some b)]).run P w = .ok (.int .i64 l.length) w := by
  obtain ⟨es, clock, hb, he, _⟩ := h
  have e1 : es.size = l.length := by
    have := congrArg List.length he
    simpa using this
  rw [← e1]
  simp [Builtin.len_, run_underlying ht, MapKept.run_getObj_map hb, goInt, Result.andThen]

variable [DecidableEq κ]
theorem MapIs.find (E : Enc P kt ek) {es : Array MapEntry} (he : es.toList.map (fun e => (e.key, e.val)) = l.map (fun p => (ek p.1, ev p.2))) (hl : ∀ p ∈ l, ∃ lit, keyOf P kt (ek p.1) = some lit) (x : κ) {kl : Lit} (hk : keyOf P kt (ek x) = some kl) (w : World) :
    ((Instr.findKey kt (ek x) es.toList).run P w = .ok none w ∧ getK l x = none ∧ ∀ e ∈ es.toList, e.key ≠ ek x) ∨ ∃ j e0 v, (Instr.findKey kt (ek x) es.toList).run P w = .ok (some (j, e0.val)) w ∧ es.toList[j]? = some e0 ∧ e0.key = ek x ∧ e0.val = ev v ∧ l[j]? = some (x, v) := by
  have hks : ∀ e ∈ es.toList, ∃ lit, keyOf P kt e.key = some lit := by
    intro e hm
    have : (e.key, e.val) ∈ l.map (fun p => (ek p.1, ev p.2)) := by rw [← he]; exact List.mem_map.2 ⟨e, hm, rfl⟩
    obtain ⟨p, hp, e1⟩ := List.mem_map.1 this
    obtain ⟨lit, hlit⟩ := hl p hp
    exact ⟨lit, by rw [← (Prod.mk.inj e1).1]; exact hlit⟩
  rcases E.keyed.find w hk es.toList hks with ⟨h1, h2⟩ | ⟨j, e0, h1, h2, h3⟩
  · refine Or.inl ⟨h1, ?_, h2⟩
    rw [getK_none]
    intro hm
    obtain ⟨p, hp, e1⟩ := List.mem_map.1 hm
    have : (ek p.1, ev p.2) ∈ es.toList.map (fun e => (e.key, e.val)) := by rw [he]; exact List.mem_map.2 ⟨p, hp, rfl⟩
    obtain ⟨e, hme, e2⟩ := List.mem_map.1 this
    exact h2 e hme (by rw [(Prod.mk.inj e2).1, e1])
  · have hj : (es.toList.map (fun e => (e.key, e.val)))[j]? = some (e0.key, e0.val) := by rw [List.getElem?_map, h2]; rfl
    rw [he, List.getElem?_map] at hj
    obtain ⟨p, hp, e1⟩ := Option.map_eq_some_iff.1 hj
    obtain ⟨e2, e3⟩ := Prod.mk.inj e1
    have e4 : p.1 = x := E.inj _ _ (e2.trans h3)
    exact Or.inr ⟨j, e0, p.2, h1, h2, h3, e3.symm, by rw [hp, ← e4]⟩

/-- 'm[k]' (c = false), 'v, ok := m[k]' (c = true). -/
theorem MapIs.look (E : Enc P kt ek) (h : MapIs w P kt ek ev b l) (ht : P.underlying t = some (.map kt et)) (c : Bool) (x : κ) {kl : Lit} (hk : keyOf P kt (ek x) = some kl) {z : Value} (hz : (zeroValue et).run P w = .ok z w) :
    (Instr.lookup t (.map (some b)) (ek x) c).run P w = .ok (match getK l x with | some v => if c then .tuple #[ev v, .bool true] else ev v | none => if c then .tuple #[z, .bool false] else z) w := by
  have hnd := h.nodup E
  obtain ⟨es, clock, hb, he, hs, hsz, hl⟩ := h
  rcases MapIs.find E he hl x hk w with ⟨h1, h2, _⟩ | ⟨j, e0, v, h1, h2, h3, h4, h5⟩
  · rw [h2]
    simp [Instr.lookup, run_underlying ht, MapKept.run_getObj_map hb, E.keyed.check w _ hk, h1, hz, Result.andThen]
  · rw [getK_of_mem l hnd x v (List.mem_of_getElem? h5)]
    simp [Instr.lookup, run_underlying ht, MapKept.run_getObj_map hb, E.keyed.check w _ hk, h1, h4, Result.andThen]
/-- 'm[k] = v'. -/
theorem MapIs.store (E : Enc P kt ek) (h : MapIs w P kt ek ev b l) (ht : P.underlying t = some (.map kt et)) (hroom : l.length < maxLen) (x : κ) (v : α) {kl : Lit} (hk : keyOf P kt (ek x) = some kl) :
    ∃ w', (Instr.mapUpdate t (.map (some b)) (ek x) (ev v)).run P w = .ok () w' ∧ MapIs w' P kt ek ev b (putK l x v) ∧ w.grownBy w' (some b) := by
  have hnd := h.nodup E
  obtain ⟨es, clock, hb, he, hs, hsz, hl⟩ := h
  have hlen : es.size = l.length := by
    have := congrArg List.length he
    simpa using this
  have hkeys : ∀ p ∈ putK l x v, ∃ lit, keyOf P kt (ek p.1) = some lit := by
    intro p hp
    rcases (mem_keys_put l x p.1 v).1 (List.mem_map.2 ⟨p, hp, rfl⟩) with e | e
    · rw [e]; exact ⟨kl, hk⟩
    · obtain ⟨q, hq, e2⟩ := List.mem_map.1 e
      rw [← e2]; exact hl q hq
  rcases MapIs.find E he hl x hk w with ⟨h1, h2, h3⟩ | ⟨j, e0, u, h1, h2, h3, h4, h5⟩
  · refine ⟨setBlock w b (.map (es.push ⟨ek x, ev v, clock⟩) (clock + 1)), ?_, ⟨_, _, heap_setBlock_same hb _, ?_, stamped_push hs h3, by simp; omega, hkeys⟩, ⟨rfl, rfl, rfl, by simp [setBlock], fun i _ hi => heap_setBlock_other hb _ (fun e => hi (by rw [e]))⟩⟩
    · simp [Instr.mapUpdate, run_underlying ht, MapKept.run_getObj_map hb, E.keyed.check w false hk, h1, MapKept.run_setObj_map _ hb, Result.andThen, setBlock]
    · rw [putK_new l x v ((getK_none l x).1 h2), Array.toList_push, List.map_append, he, List.map_append]; rfl
  · have hj : es[j]? = some e0 := by simpa using h2
    have hkeyf : ∀ e', es[j]? = some e' → ({ e' with key := ek x, val := ev v } : MapEntry).key = e'.key := fun e' he' => by rw [hj] at he'; cases he'; exact h3.symm
    refine ⟨setBlock w b (.map (es.modify j (fun e' => { e' with key := ek x, val := ev v })) clock), ?_, ⟨_, _, heap_setBlock_same hb _, ?_, stamped_modify hs _ _ (fun _ _ => rfl) (fun e' _ he' => hkeyf e' he'), by simpa using hsz, hkeys⟩, ⟨rfl, rfl, rfl, by simp [setBlock], fun i _ hi => heap_setBlock_other hb _ (fun e => hi (by rw [e]))⟩⟩
    · simp [Instr.mapUpdate, run_underlying ht, MapKept.run_getObj_map hb, E.keyed.check w false hk, h1, hj, h3, E.keyed.stays w hk, MapKept.run_setObj_map _ hb, Result.andThen, setBlock]
    · rw [putK_set l x v j u hnd h5, Array.toList_modify, modify_eq_set _ _ _ _ h2, List.map_set, he, List.map_set]
end

theorem bd_grown {B : Nat} {w0 w w' : World} {b : Nat} (h : Below B w0 w) (hg : w.grownBy w' (some b)) (hB : B ≤ w.heap.size) (hb : B ≤ b) : Below B w0 w' :=
  h.grown hg hB (fun k e => by cases e; exact hb)
/-- The laws at the operations, for the walk. -/
theorem wpList_map_look {κ α : Type} [DecidableEq κ] {P : Program} {w : World} {ops : Array Oper} {rest : List Oper} {o : Oper} {a : Act} {Q : Exit → Act → World → Prop}
    {kt et : TypeId} {ek : κ → Value} {ev : α → Value} (E : Enc P kt ek) (hg : o.guard = none) (m x : Operand) (t : TypeId) (c : Bool) (hop : o.op = Op.lookup t m x c) (ht : P.underlying t = some (.map kt et)) (z : Value) (hz : (zeroValue et).run P w = .ok z w)
    (b : Nat) (l : List (κ × α)) (hm : a.eval m = .map (some b)) (h : MapIs w P kt ek ev b l) (y : κ) (hx : a.eval x = ek y) {kl : Lit} (hk : keyOf P kt (ek y) = some kl)
    (hK : wpList P ops Q rest (a.put o.dst (match getK l y with | some v => if c then .tuple #[ev v, .bool true] else ev v | none => if c then .tuple #[z, .bool false] else z)) w) : wpList P ops Q (o :: rest) a w := by
  refine wpList_plain hg fun K' hK' => ?_
  have hrun := h.look E ht c y hk hz
  unfold Oper.wp
  simp only [execOp, hop, hm, hx]
  simp [hrun, Result.andThen]
  exact hK' _ _ hK
theorem wpList_map_hit {κ α : Type} [DecidableEq κ] {P : Program} {w : World} {ops : Array Oper} {rest : List Oper} {o : Oper} {a : Act} {Q : Exit → Act → World → Prop}
    {kt et : TypeId} {ek : κ → Value} {ev : α → Value} (E : Enc P kt ek) (hg : o.guard = none) (m x : Operand) (t : TypeId) (hop : o.op = Op.lookup t m x false) (ht : P.underlying t = some (.map kt et)) (z : Value) (hz : (zeroValue et).run P w = .ok z w)
    (b : Nat) (l : List (κ × α)) (hm : a.eval m = .map (some b)) (h : MapIs w P kt ek ev b l) (y : κ) (hx : a.eval x = ek y) {kl : Lit} (hk : keyOf P kt (ek y) = some kl) (v : α) (hr : getK l y = some v)
    (hK : wpList P ops Q rest (a.put o.dst (ev v)) w) : wpList P ops Q (o :: rest) a w := by
  refine wpList_map_look E hg m x t false hop ht z hz b l hm h y hx hk ?_
  rw [hr]; exact hK
theorem wpList_map_miss {κ α : Type} [DecidableEq κ] {P : Program} {w : World} {ops : Array Oper} {rest : List Oper} {o : Oper} {a : Act} {Q : Exit → Act → World → Prop}
    {kt et : TypeId} {ek : κ → Value} {ev : α → Value} (E : Enc P kt ek) (hg : o.guard = none) (m x : Operand) (t : TypeId) (hop : o.op = Op.lookup t m x false) (ht : P.underlying t = some (.map kt et)) (z : Value) (hz : (zeroValue et).run P w = .ok z w)
    (b : Nat) (l : List (κ × α)) (hm : a.eval m = .map (some b)) (h : MapIs w P kt ek ev b l) (y : κ) (hx : a.eval x = ek y) {kl : Lit} (hk : keyOf P kt (ek y) = some kl) (hr : getK l y = none)
    (hK : wpList P ops Q rest (a.put o.dst (z)) w) : wpList P ops Q (o :: rest) a w := by
  refine wpList_map_look E hg m x t false hop ht z hz b l hm h y hx hk ?_
  rw [hr]; exact hK
theorem wpList_map_ok_hit {κ α : Type} [DecidableEq κ] {P : Program} {w : World} {ops : Array Oper} {rest : List Oper} {o : Oper} {a : Act} {Q : Exit → Act → World → Prop}
    {kt et : TypeId} {ek : κ → Value} {ev : α → Value} (E : Enc P kt ek) (hg : o.guard = none) (m x : Operand) (t : TypeId) (hop : o.op = Op.lookup t m x true) (ht : P.underlying t = some (.map kt et)) (z : Value) (hz : (zeroValue et).run P w = .ok z w)
    (b : Nat) (l : List (κ × α)) (hm : a.eval m = .map (some b)) (h : MapIs w P kt ek ev b l) (y : κ) (hx : a.eval x = ek y) {kl : Lit} (hk : keyOf P kt (ek y) = some kl) (v : α) (hr : getK l y = some v)
    (hK : wpList P ops Q rest (a.put o.dst (.tuple #[ev v, .bool true])) w) : wpList P ops Q (o :: rest) a w := by
  refine wpList_map_look E hg m x t true hop ht z hz b l hm h y hx hk ?_
  rw [hr]; exact hK
theorem wpList_map_ok_miss {κ α : Type} [DecidableEq κ] {P : Program} {w : World} {ops : Array Oper} {rest : List Oper} {o : Oper} {a : Act} {Q : Exit → Act → World → Prop}
    {kt et : TypeId} {ek : κ → Value} {ev : α → Value} (E : Enc P kt ek) (hg : o.guard = none) (m x : Operand) (t : TypeId) (hop : o.op = Op.lookup t m x true) (ht : P.underlying t = some (.map kt et)) (z : Value) (hz : (zeroValue et).run P w = .ok z w)
    (b : Nat) (l : List (κ × α)) (hm : a.eval m = .map (some b)) (h : MapIs w P kt ek ev b l) (y : κ) (hx : a.eval x = ek y) {kl : Lit} (hk : keyOf P kt (ek y) = some kl) (hr : getK l y = none)
    (hK : wpList P ops Q rest (a.put o.dst (.tuple #[z, .bool false])) w) : wpList P ops Q (o :: rest) a w := by
  refine wpList_map_look E hg m x t true hop ht z hz b l hm h y hx hk ?_
  rw [hr]; exact hK
theorem wpList_map_store {κ α : Type} [DecidableEq κ] {P : Program} {w : World} {ops : Array Oper} {rest : List Oper} {o : Oper} {a : Act} {Q : Exit → Act → World → Prop}
    {kt et : TypeId} {ek : κ → Value} {ev : α → Value} (E : Enc P kt ek) (hg : o.guard = none) (m x v : Operand) (t : TypeId) (hop : o.op = Op.mapUpdate t m x v) (ht : P.underlying t = some (.map kt et))
    (b : Nat) (l : List (κ × α)) (hm : a.eval m = .map (some b)) (h : MapIs w P kt ek ev b l) (hroom : l.length < maxLen) (y : κ) (u : α) (hx : a.eval x = ek y) (hv : a.eval v = ev u) {kl : Lit} (hk : keyOf P kt (ek y) = some kl)
    (hK : ∀ w', MapIs w' P kt ek ev b (putK l y u) → w.grownBy w' (some b) → wpList P ops Q rest (a.put o.dst undef) w') : wpList P ops Q (o :: rest) a w := by
  refine wpList_plain hg fun K' hK' => ?_
  obtain ⟨w', hrun, r1, r2⟩ := h.store E ht hroom y u hk
  unfold Oper.wp
  simp [execOp, hop, hm, hx, hv, hrun, Result.andThen]
  exact hK' _ _ (hK w' r1 r2)
theorem wpList_map_len {κ α : Type} [DecidableEq κ] {P : Program} {w : World} {ops : Array Oper} {rest : List Oper} {o : Oper} {a : Act} {Q : Exit → Act → World → Prop}
    {kt et : TypeId} {ek : κ → Value} {ev : α → Value} (hg : o.guard = none) (m : Operand) (t : TypeId) (hop : o.op = Op.call { callee := Callee.builtin Builtin.len, args := #[m], argTypes := #[t] }) (ht : P.underlying t = some (.map kt et))
    (b : Nat) (l : List (κ × α)) (hm : a.eval m = .map (some b)) (h : MapIs w P kt ek ev b l) (hK : wpList P ops Q rest (a.put o.dst (.int .i64 l.length)) w) : wpList P ops Q (o :: rest) a w := by
  refine wpList_plain hg fun K' hK' => ?_
  unfold Oper.wp
  simp [execOp, hop, resolve, invoke, builtin, hm, h.size_eq ht o.type, Result.andThen]
  exact hK' _ _ hK
theorem enc_int {P : Program} {kt : TypeId} {q : IntKind} (h : P.underlying kt = some (.int q)) : Enc P kt (fun n : Int => Value.int q n) := ⟨Maps.int_keyed h, fun x y e => by cases e; rfl⟩
end Go.Proofs.Ytamkahjdedomlaa
