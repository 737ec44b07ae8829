/-
  'for k, v := range m' over a map of the call's own that the loop does not turn: every entry comes, whatever the order.
-/
import Derived.Test.YtafididfgljfcaaMap
import Derived.Maps.RangeWalk
namespace Go.Proofs.Ytafididfgljfcaa
open Go.RowKit Go.MapKept Go.ChangeMaps
open Go.Maps (Keyed)
set_option linter.unusedVariables false

/-- Block b is the map l, block r an iterator over it; of the entries that have come, G holds; cnt are still to come. -/
def RngIs {κ α : Type} (w : World) (P : Program) (kt : TypeId) (ek : κ → Value) (ev : α → Value) (b r : Nat) (l : List (κ × α)) (G : κ × α → Prop) (cnt : Nat) : Prop :=
  MapIs w P kt ek ev b l ∧ ∃ es clock since seen c0, w.heap[b]? = some (.map es clock) ∧ es.toList.map (fun e => (e.key, e.val)) = l.map (fun p => (ek p.1, ev p.2)) ∧ (es.toList.map (·.born)).Nodup ∧
    w.heap[r]? = some (.mapIter (some b) since seen c0) ∧ (∀ x ∈ es.toList, x.born < since) ∧ since ≤ c0 ∧ since ≤ clock ∧ (leftOf es seen).size = cnt ∧
    ∀ (i : Nat) (x : MapEntry) (p : κ × α), es.toList[i]? = some x → l[i]? = some p → seen.contains x.born = true → G p
section
variable {κ α : Type} {P : Program} {kt et t : TypeId} {ek : κ → Value} {ev : α → Value} {w : World} {b r : Nat} {l : List (κ × α)} {G : κ × α → Prop} {cnt : Nat}
theorem RngIs.map (h : RngIs w P kt ek ev b r l G cnt) : MapIs w P kt ek ev b l := h.1
theorem RngIs.lt (h : RngIs w P kt ek ev b r l G cnt) : r < w.heap.size := by
  obtain ⟨_, es, clock, since, seen, c0, _, _, _, hr, _⟩ := h
  exact (Array.getElem?_eq_some_iff.1 hr).1
theorem RngIs.ne (h : RngIs w P kt ek ev b r l G cnt) : r ≠ b := by
  obtain ⟨_, es, clock, since, seen, c0, hb, _, _, hr, _⟩ := h
  intro e
  rw [e, hb] at hr
  cases hr
theorem RngIs.same {w' : World} (h : RngIs w P kt ek ev b r l G cnt) (e1 : w'.heap[b]? = w.heap[b]?) (e2 : w'.heap[r]? = w.heap[r]?) : RngIs w' P kt ek ev b r l G cnt := by
  obtain ⟨hm, es, clock, since, seen, c0, hb, he, hn, hr, rest⟩ := h
  exact ⟨hm.same e1, es, clock, since, seen, c0, e1.trans hb, he, hn, e2.trans hr, rest⟩
theorem RngIs.kept {w' : World} (h : RngIs w P kt ek ev b r l G cnt) (hb : Below w.heap.size w w') : RngIs w' P kt ek ev b r l G cnt := h.same (hb.block _ h.map.lt) (hb.block _ h.lt)
theorem RngIs.alloc (h : RngIs w P kt ek ev b r l G cnt) (o : Obj) : RngIs (w.alloc o) P kt ek ev b r l G cnt := h.kept ((Below.refl _ _).alloc (Nat.le_refl _) _)
theorem RngIs.left_eq (h : RngIs w P kt ek ev b r l G cnt) : w.rangeLeft b r = cnt := by
  obtain ⟨_, es, clock, since, seen, c0, hb, _, _, hr, _, _, _, hc, _⟩ := h
  simp only [World.rangeLeft, hb, hr]
  exact hc
/-- 'range m'. -/
theorem wpList_range_is {ops : Array Oper} {rest : List Oper} {o : Oper} {a : Act} {Q : Exit → Act → World → Prop} (hg : o.guard = none) (m : Operand) (hop : o.op = Op.range t m) (ht : P.underlying t = some (.map kt et)) (b : Nat) (l : List (κ × α)) (G : κ × α → Prop)
    (hm : a.eval m = .map (some b)) (h : MapIs w P kt ek ev b l)
    (hK : ∀ w' cnt, RngIs w' P kt ek ev b w.heap.size l G cnt → w.grownBy w' none → w'.heap.size = w.heap.size + 1 → wpList P ops Q rest (a.put o.dst (.pointer (some ⟨w.heap.size, 0, none⟩))) w') : wpList P ops Q (o :: rest) a w := by
  refine wpList_plain hg fun K' hK' => ?_
  have h0 := h
  obtain ⟨es, clock, hb, he, hs, hsz, hl⟩ := h
  have hrun := run_range_map w t kt et b es clock ht hb
  unfold Oper.wp
  simp [execOp, hop, hm, hrun, Result.andThen]
  refine hK' _ _ (hK _ _ ⟨h0.alloc _, es, clock, clock, #[], clock, ((MapKept.heap_alloc w _).2 b h0.lt).trans hb, he, hs.2.1, (MapKept.heap_alloc w _).1, hs.1, Nat.le_refl _, Nat.le_refl _, rfl, fun i x p _ _ hc => by simp at hc⟩ (World.grownBy_alloc w _ none) (by simp))
/-- The step. -/
theorem wpList_next_is {ops : Array Oper} {rest : List Oper} {o : Oper} {a : Act} {Q : Exit → Act → World → Prop} (hg : o.guard = none) (it : Operand) (hop : o.op = Op.next it false) (b r : Nat) (l : List (κ × α)) (G : κ × α → Prop) (cnt : Nat)
    (hit : a.eval it = .pointer (some ⟨r, 0, none⟩)) (h : RngIs w P kt ek ev b r l G cnt)
    (hDone : cnt = 0 → (∀ p ∈ l, G p) → wpList P ops Q rest (a.put o.dst (.tuple #[.bool false])) w)
    (hMore : ∀ p ∈ l, ∀ (w' : World) (cnt' : Nat), (G p → RngIs w' P kt ek ev b r l G cnt') → MapIs w' P kt ek ev b l → cnt' < cnt → w'.rangeLeft b r = cnt' → w.grownBy w' (some r) → w'.heap.size = w.heap.size →
      (Instr.entry (.pointer (some ⟨r, 0, none⟩))).run P w' = .ok (.tuple #[ek p.1, ev p.2]) w' → wpList P ops Q rest (a.put o.dst (.tuple #[.bool true, ek p.1, ev p.2])) w') :
    wpList P ops Q (o :: rest) a w := by
  refine wpList_plain hg fun K' hK' => ?_
  have hne := h.ne
  obtain ⟨hm, es, clock, since, seen, c0, hb, he, hn, hr, hold, hsc, hsk, hcnt, hG⟩ := h
  have hlen : es.toList.length = l.length := by
    have := congrArg List.length he
    simpa using this
  unfold Oper.wp
  rcases run_next_at (P := P) w o.type r b since c0 seen es clock hr hb hold hsc with ⟨h0, hrun⟩ | ⟨e, hel, w1, hal, hrun⟩
  · simp [execOp, hop, hit, hrun, Result.andThen]
    refine hK' _ _ (hDone (hcnt.symm.trans h0) fun p hp => ?_)
    obtain ⟨i, hi, rfl⟩ := List.mem_iff_getElem.1 hp
    have hie : i < es.toList.length := by omega
    refine hG i es.toList[i] l[i] (List.getElem?_eq_getElem hie) (List.getElem?_eq_getElem hi) ?_
    exact all_seen es seen h0 _ (List.getElem_mem hie)
  · obtain ⟨hmem, hns⟩ := mem_left hel
    obtain ⟨i, hi, hie⟩ := List.mem_iff_getElem.1 hmem
    have hil : i < l.length := by omega
    have hp : (e.key, e.val) = (ek l[i].1, ev l[i].2) := by
      have h1 : (es.toList.map (fun e => (e.key, e.val)))[i]? = some (e.key, e.val) := by rw [List.getElem?_map, List.getElem?_eq_getElem hi, hie]; rfl
      rw [he, List.getElem?_map, List.getElem?_eq_getElem hil] at h1
      exact (Option.some.inj h1).symm
    obtain ⟨hp1, hp2⟩ := Prod.mk.inj hp
    have hb1 : w1.heap[b]? = some (.map es clock) := by rcases hal with rfl | rfl <;> exact hb
    have hr1 : w1.heap[r]? = some (.mapIter (some b) since seen c0) := by rcases hal with rfl | rfl <;> exact hr
    have hh : w1.heap = w.heap := by rcases hal with rfl | rfl <;> rfl
    have hset := heap_set (o' := .mapIter (some b) since (seen.push e.born) clock) hr1
    have hg1 : w.grownBy (setBlock w1 r (.mapIter (some b) since (seen.push e.born) clock)) (some r) := by
      refine ⟨?_, ?_, ?_, ?_, fun k hk hkr => ?_⟩
      · rcases hal with rfl | rfl <;> rfl
      · rcases hal with rfl | rfl <;> rfl
      · rcases hal with rfl | rfl <;> rfl
      · simp [setBlock, hh]
      · exact (hset.2 k (fun e => hkr (by rw [e]))).trans (by rw [hh])
    have hb2 : (setBlock w1 r (.mapIter (some b) since (seen.push e.born) clock)).heap[b]? = some (.map es clock) := (hset.2 b (fun e => hne e.symm)).trans hb1
    have hr2 : (setBlock w1 r (.mapIter (some b) since (seen.push e.born) clock)).heap[r]? = some (.mapIter (some b) since (seen.push e.born) clock) := hset.1
    have hen := run_entry_at (P := P) (setBlock w1 r (.mapIter (some b) since (seen.push e.born) clock)) r b since seen es clock e hr2 hb2 hmem hn
    rw [hp1, hp2] at hen hrun
    simp [execOp, hop, hit, hrun, Result.andThen]
    refine hK' _ _ (hMore l[i] (List.getElem_mem hil) _ (leftOf es (seen.push e.born)).size (fun hGp => ⟨hm.same (hb2.trans hb.symm), es, clock, since, seen.push e.born, clock, hb2, he, hn, hr2, hold, hsk, hsk, rfl, fun j x p hjx hjp hc => ?_⟩) (hm.same (hb2.trans hb.symm))
      (by rw [← hcnt]; exact left_shrinks es seen e hel) (by simp only [World.rangeLeft, hb2, hr2]) hg1 (by simp [setBlock, hh]) hen)
    by_cases c : x.born = e.born
    · have hjl : j < es.toList.length := (List.getElem?_eq_some_iff.1 hjx).1
      have hxj : es.toList[j] = x := (List.getElem?_eq_some_iff.1 hjx).2
      have hij : j = i := by
        have hn' := List.nodup_iff_pairwise_ne.1 hn
        rw [List.pairwise_map] at hn'
        rcases Nat.lt_trichotomy j i with h1 | h1 | h1
        · exact absurd (by rw [hxj, hie]; exact c) (List.pairwise_iff_getElem.1 hn' j i hjl hi h1)
        · exact h1
        · exact absurd (by rw [hxj, hie]; exact c.symm) (List.pairwise_iff_getElem.1 hn' i j hi hjl h1)
      subst hij
      rw [List.getElem?_eq_getElem hil] at hjp
      cases hjp
      exact hGp
    · refine hG j x p hjx hjp ?_
      simp at hc
      rcases hc with h1 | h1
      · simpa using h1
      · exact absurd h1 c
end
end Go.Proofs.Ytafididfgljfcaa
