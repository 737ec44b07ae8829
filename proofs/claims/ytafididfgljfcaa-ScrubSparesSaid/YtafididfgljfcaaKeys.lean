/-
  slices.Sorted(maps.Keys(m)) at a map of the call's own with int keys.
-/
import Derived.Test.YtafididfgljfcaaShelf55
import Derived.Test.YtafididfgljfcaaMap
import Derived.Test.YtafididfgljfcaaInts
import Derived.Test.YtafididfgljfcaaLost
namespace Go.Proofs.Ytafididfgljfcaa
open Go.RowKit Go.Maps Go.Sort Go.Shelf
set_option linter.unusedVariables false

theorem sortsA (m : Nat) : AnyZI.SortsIn Try.prog Try.sortedA_ren Fence.wide m :=
  ⟨fun blk off cap ss W hH hblk hsz => callsIn_wide.2 (Try.slices_Sort_int blk off cap ss W hH hblk hsz),
   fun p cap W => callsIn_wide.2 (Try.slices_Sort_int_none p cap W)⟩

/-- An element reads as itself. -/
def selfR (v : Value) : Option (DataW Value × List MemPlace) := some (.held v, [])
variable {α : Type}
theorem MapIs.owns {w : World} {ev : α → Value} {b : Nat} {l : List (Int × α)} (h : MapIs w Try.prog 3 (fun n : Int => Value.int .i64 n) ev b l) :
    ∃ D : DataW Value, w.ownsMap Try.prog 3 selfR b l.length D ∧ (intKeys D).Perm (l.map (·.1)) ∧ Maps.size D = l.length := by
  obtain ⟨es, clock, hb, he, hs, hsz, hl⟩ := h
  have hlen : es.size = l.length := by
    have := congrArg List.length he
    simpa using this
  have hreads : ∀ x ∈ es.toList, ∃ y, WideElems.rd Try.prog 3 selfR x = some y := by
    intro x hx
    have : (x.key, x.val) ∈ l.map (fun p => (Value.int .i64 p.1, ev p.2)) := by rw [← he]; exact List.mem_map.2 ⟨x, hx, rfl⟩
    obtain ⟨p, hp, e1⟩ := List.mem_map.1 this
    obtain ⟨lit, hlit⟩ := hl p hp
    have hk : keyOf Try.prog 3 x.key = some lit := by rw [← (Prod.mk.inj e1).1]; exact hlit
    exact ⟨_, WideElems.rd_mk (born := x.born) hk (rfl : selfR x.val = some (.held x.val, []))⟩
  have hrg : es.toList.map (fun x => Go.intOf (WideElems.rg Try.prog 3 selfR x).1) = l.map (·.1) := by
    have h1 : es.toList.map (fun x => Go.intOf (WideElems.rg Try.prog 3 selfR x).1) = (es.toList.map (fun e => (e.key, e.val))).map (fun p => match p.1 with | .int _ n => n | _ => 0) := by
      rw [List.map_map]
      refine List.map_congr_left fun x hx => ?_
      obtain ⟨y, hy⟩ := hreads x hx
      rw [WideElems.rg_of hy]
      have hk := WideElems.rd_key hy
      obtain ⟨n, hn, hn2, _⟩ := Maps.keyOf_i64 Try.underlying3 hk
      rw [hn2]
      show n = match x.key with | .int _ n => n | _ => 0
      rw [hn]
    rw [h1, he, List.map_map]; rfl
  refine ⟨_, ⟨es, clock, hb, ⟨hsz, hs, hreads⟩, by omega, rfl⟩, ?_, ?_⟩
  · rw [← hrg]
    show ((List.foldr DataW.insert [] (es.toList.map (WideElems.rg Try.prog 3 selfR))).map fun p => Go.intOf p.1).Perm _
    have := (WideShapes.sorted_perm (es.toList.map (WideElems.rg Try.prog 3 selfR))).map (fun p : Lit × DataW Value => Go.intOf p.1)
    rw [List.map_map] at this
    exact this
  · rw [← hlen]
    simp [Maps.size, length_sorted]

theorem maps_keys (mb : Option Nat) (w : World) : Calls Try.prog 23 #[.map mb] w fun e w' => e = .returned (.func (.func 29) #[] #[.pointer (some ⟨w.heap.size, 0, none⟩)]) ∧ w' = w.alloc (.cells #[.map mb] 55) :=
  callsIn_wide.1 (AnyZI.keys_in Try.keysA Fence.wide 5 trivial rfl mb w)
theorem slices_sorted {w : World} {ev : α → Value} {b : Nat} {l : List (Int × α)} (h : MapIs w Try.prog 3 (fun n : Int => Value.int .i64 n) ev b l) (hl : l.length ≤ 100000) :
    Calls Try.prog 22 #[.func (.func 29) #[] #[.pointer (some ⟨w.heap.size, 0, none⟩)]] (w.alloc (.cells #[.map (some b)] 55)) fun e w' =>
      ∃ v, e = .returned v ∧ SlI w' w.heap.size v (lostB (l.map (·.1))) ∧ Below w.heap.size w w' := by
  obtain ⟨D, hown, hperm, hsize⟩ := h.owns
  have hbl := hown.lt
  have hseq : SeqGives Fence.wide 2 Try.prog 29 #[.pointer (some ⟨w.heap.size, 0, none⟩)] encZ (fun ss => ss.Perm (intKeys D)) (Maps.size D) (w.alloc (.cells #[.map (some b)] 55)) :=
    AnyZI.keys_gives (ρ := Try.keysA_ren) { Try.keysA with } Fence.wide _ trivial rfl (by omega) w.heap.size b l.length D _ (by simp) (by simp) (by
      obtain ⟨es, clock, hb, Ft, hs, hD⟩ := hown
      exact ⟨es, clock, (Below.heap_alloc _ _ b hbl).trans hb, Ft, hs, hD⟩)
  have cS := AnyZI.sorted_in Try.sortedA Fence.wide 5 trivial trivial trivial trivial rfl (by omega) (sortsA _) (enters_of Try.func28 (by kernel_rfl) rfl) 29 #[.pointer (some ⟨w.heap.size, 0, none⟩)] trivial (enters_of Try.func29 (by kernel_rfl) rfl) _ _ (by rw [hsize]; unfold maxLen; omega) (by rw [hsize]; omega) _ hseq
  change CallsIn _ _ Try.prog 22 _ _ _ at cS
  refine (callsIn_wide.1 cS).mono ?_
  rintro e w' ⟨v, ss, rfl, hS, hrow, hnil, hb⟩
  have hp := hS.trans hperm
  have hnd := h.nodup (enc_int Try.underlying3)
  have hlost : lostB (l.map (·.1)) = ss.mergeSort (fun x y => decide (x ≤ y)) := by
    refine sorted_unique _ _ (lost_lt _) ?_ fun x => by rw [lost_mem, List.mem_mergeSort]; exact hp.symm.mem_iff
    have h1 := sorted_le ss
    have h2 : (ss.mergeSort fun x y => decide (x ≤ y)).Nodup := (List.mergeSort_perm ss _).nodup_iff.2 (hp.nodup_iff.2 hnd)
    exact (h1.and h2).imp fun ⟨a, b⟩ => by omega
  rw [hlost]
  refine ⟨v, rfl, (slI_of_owns hrow (by rw [List.length_mergeSort])).mono (by simp), ((Below.refl _ w).alloc (Nat.le_refl _) _).trans (hb.mono (by simp))⟩
end Go.Proofs.Ytafididfgljfcaa
