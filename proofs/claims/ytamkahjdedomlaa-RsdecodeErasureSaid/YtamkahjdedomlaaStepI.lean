/-
  'append' of integers as one step of a region that draws its order; appending whatever reads as numbers.
-/
import Derived.Test.YtamkahjdedomlaaIntsFn
import Derived.Deep.RegionLaw
namespace Go.Proofs.Ytamkahjdedomlaa
open Go.RowKit
set_option linter.unusedVariables false

/-- 'append(x, y...)': x owns its numbers, y reads as numbers (nil and empty ones included). -/
theorem run_append_rd {P : Program} {w : World} (t ty e : TypeId) (ht : P.underlying t = some (.slice e)) (h2 : (P.info? e).map (fun i => (i.zero, i.size, i.bytes)) = some (some (.int .i64 0), 1, 8))
    (base : Nat) (v : Value) (n : Nat) (L : List Int) (hown : w.ownsRow base e 1 v n (L.map i64v)) (hbase : base ≤ w.heap.size) (y : Value) (l : List Int) (hy : RdI w y l) (hnil : y ≠ .slice none 0 0 → ∃ ad n c, y = .slice (some ad) n c) (hb : n + l.length ≤ 100000000) :
    ∃ v' w', (Builtin.append_ #[t, t] ty #[v, y]).run P w = .ok v' w' ∧ w'.ownsRow base e 1 v' (n + l.length) ((L ++ l).map i64v) ∧ w.grownBy w' v.ownBlock := by
  obtain ⟨i, hi, hz0, hz1, hz2⟩ := info_parts h2
  by_cases hn : y = .slice none 0 0
  · subst hn
    have hl : l = [] := by
      rcases hy with ⟨_, _, _, e⟩ | ⟨_, _, _, e, _⟩
      · exact e
      · cases e
    subst hl
    refine ⟨v, w, run_append_owned_none (P := P) (w := w) base t ty e i 1 ht hi v n _ hown, by simpa using hown, ⟨rfl, rfl, rfl, Nat.le_refl _, fun _ _ _ => rfl⟩⟩
  · obtain ⟨ad, m, c, rfl⟩ := hnil hn
    have hm : m = l.length ∧ ∀ j u, (l.map i64v)[j]? = some u → w.cell? (ad.add j) = some u := by
      rcases hy with ⟨a, cap, e1, e2⟩ | ⟨b, off, cap, e1, e2, e3⟩
      · subst e2; cases e1; exact ⟨rfl, fun j u h => by simp at h⟩
      · cases e1
        refine ⟨rfl, fun j u hj => ?_⟩
        rw [List.getElem?_map] at hj
        obtain ⟨z, hz1, hz2⟩ := Option.map_eq_some_iff.1 hj
        have hjl : j < l.length := (List.getElem?_eq_some_iff.1 hz1).1
        have e1 : (⟨b, off, none⟩ : Addr).add j = ⟨b, off + j, none⟩ := by unfold Addr.add; split <;> simp_all
        rw [e1, e3 j hjl, hz1, ← hz2]; rfl
    obtain ⟨rfl, hc⟩ := hm
    obtain ⟨v', w', hrun, r1, r2, _⟩ := run_append_own (P := P) w base t ty e i (.int .i64 0) 1 8 ht hi hz0 hz1 hz2 rfl (by decide) v n (L.map i64v) hown ad l.length c (l.map i64v) (by simp) hc (by
      intro u hu
      obtain ⟨z, _, hz⟩ := List.mem_map.1 hu
      rw [← hz]; rfl) (by unfold maxLen; omega) (by omega) hbase
    exact ⟨v', w', hrun, by rw [List.map_append]; exact r1, r2⟩
theorem step_append_rd {P : Program} {ops : Array Oper} {o : Oper} {a : Act} {w : World} {K : Act → World → Prop} {Q : Exit → Act → World → Prop} {E : Prop}
    (hg : o.guard = none) (s x : Operand) (t e : TypeId) (hop : o.op = Op.call { callee := Callee.builtin Builtin.append, args := #[s, x], argTypes := #[t, t] })
    (ht : P.underlying t = some (.slice e)) (h2 : (P.info? e).map (fun i => (i.zero, i.size, i.bytes)) = some (some (.int .i64 0), 1, 8))
    (base : Nat) (v : Value) (n : Nat) (L : List Int) (hs : a.eval s = v) (hown : w.ownsRow base e 1 v n (L.map i64v)) (hbase : base ≤ w.heap.size) (y : Value) (l : List Int) (hx : a.eval x = y) (hy : RdI w y l) (hnil : y ≠ .slice none 0 0 → ∃ ad n c, y = .slice (some ad) n c) (hb : n + l.length ≤ 100000000)
    (hK : ∀ v' w', w'.ownsRow base e 1 v' (n + l.length) ((L ++ l).map i64v) → w.grownBy w' v.ownBlock → K (a.put o.dst v') w') :
    if Region.wanted o (yielded ops a.tmps) = true then Oper.wp P o a w K Q else E := by
  have hw : Region.wanted o (yielded ops a.tmps) = true := by simp [Region.wanted, hg]
  rw [if_pos hw]
  obtain ⟨v', w', hrun, r1, r2⟩ := run_append_rd (P := P) (w := w) t o.type e ht h2 base v n L hown hbase y l hy hnil hb
  unfold Oper.wp
  simp [execOp, hop, resolve, invoke, builtin, hs, hx, hrun, Result.andThen]
  exact hK v' w' r1 r2
end Go.Proofs.Ytamkahjdedomlaa
