/-
  Gauss's elimination over the field: what each round keeps. No program in sight.
  A matrix of bytes in memory: a row of rows, each row a block of its own.
-/
import Derived.Test.YtamkahjdedomlaaSum
import Derived.Test.YtamkahjdedomlaaGfB
import Derived.Test.YtamkahjdedomlaaBy
import Derived.WalkKit
namespace Go.Proofs.Ytamkahjdedomlaa
set_option linter.unusedVariables false
open F (sumN)

abbrev Mx := Nat → Nat → UInt8
/-- x solves the m rows of n coefficients and a right side. -/
def Sol (m n : Nat) (M : Mx) (x : Nat → F) : Prop := ∀ a, a < m → sumN n (fun k => F.mk (M a k) * x k) = F.mk (M a n)
/-- v is sent to zero by all rows. -/
def Ker (m n : Nat) (M : Mx) (v : Nat → F) : Prop := ∀ a, a < m → sumN n (fun k => F.mk (M a k) * v k) = 0
/-- x is the one solution. -/
def Uniq (m n : Nat) (M : Mx) (x : Nat → F) : Prop := Sol m n M x ∧ ∀ v, Ker m n M v → ∀ k, k < n → v k = 0
/-- The rows M' came of M, and the first i columns are done. -/
structure GInv (m n : Nat) (M M' : Mx) (i : Nat) : Prop where
  sol : ∀ x, Sol m n M x → Sol m n M' x
  ker : ∀ v, Ker m n M' v → Ker m n M v
  unit : ∀ a b, a < m → b < i → F.mk (M' a b) = if a = b then 1 else 0
theorem GInv.start (m n : Nat) (M : Mx) : GInv m n M M 0 := ⟨fun x h => h, fun v h => h, fun a b _ h => by omega⟩
def swapR (M : Mx) (i j : Nat) : Mx := fun a => if a = i then M j else if a = j then M i else M a
def scaleR (M : Mx) (i : Nat) (y : UInt8) : Mx := fun a k => if a = i then F.mulB (M i k) y else M a k
def elimR (M : Mx) (i : Nat) : Mx := fun a k => if a = i then M a k else M a k ^^^ F.mulB (M a i) (M i k)
theorem swap_swap_row (M : Mx) (i j a : Nat) : ∃ b, (a = i ∧ b = j ∨ a = j ∧ b = i ∨ a ≠ i ∧ a ≠ j ∧ b = a) ∧ swapR M i j a = M b := by
  unfold swapR
  by_cases h : a = i
  · exact ⟨j, Or.inl ⟨h, rfl⟩, by rw [if_pos h]⟩
  · by_cases h2 : a = j
    · exact ⟨i, Or.inr (Or.inl ⟨h2, rfl⟩), by rw [if_neg h, if_pos h2]⟩
    · exact ⟨a, Or.inr (Or.inr ⟨h, h2, rfl⟩), by rw [if_neg h, if_neg h2]⟩
theorem swap_inv (M : Mx) (i j : Nat) : swapR (swapR M i j) i j = M := by
  funext a
  unfold swapR
  by_cases h : a = i
  · subst h
    by_cases h2 : j = a
    · rw [if_pos rfl, if_pos h2, h2]
    · rw [if_pos rfl, if_neg h2, if_pos rfl]
  · by_cases h2 : a = j
    · subst h2
      rw [if_neg h, if_pos rfl, if_pos rfl]
    · rw [if_neg h, if_neg h2, if_neg h, if_neg h2]
theorem sol_swap {m n : Nat} {M : Mx} {i j : Nat} (hi : i < m) (hj : j < m) {x : Nat → F} (h : Sol m n M x) : Sol m n (swapR M i j) x := by
  intro a ha
  obtain ⟨b, hb, e⟩ := swap_swap_row M i j a
  rw [e]
  exact h b (by omega)
theorem ker_swap {m n : Nat} {M : Mx} {i j : Nat} (hi : i < m) (hj : j < m) {v : Nat → F} (h : Ker m n (swapR M i j) v) : Ker m n M v := by
  intro a ha
  obtain ⟨b, hb, e⟩ := swap_swap_row (swapR M i j) i j a
  rw [swap_inv] at e
  rw [e]
  exact h b (by omega)
theorem GInv.swap {m n : Nat} {M M' : Mx} {i j : Nat} (h : GInv m n M M' i) (hij : i ≤ j) (hj : j < m) : GInv m n M (swapR M' i j) i := by
  refine ⟨fun x hx => sol_swap (by omega) hj (h.sol x hx), fun v hv => h.ker v (ker_swap (by omega) hj hv), fun a b ha hb => ?_⟩
  obtain ⟨c, hc, e⟩ := swap_swap_row M' i j a
  rw [e, h.unit c b (by omega) hb]
  by_cases h1 : a = b
  · rw [if_pos h1, if_pos (by omega)]
  · rw [if_neg h1, if_neg (by omega)]
theorem GInv.scale {m n : Nat} {M M' : Mx} {i : Nat} (h : GInv m n M M' i) (hi : i < m) (y : UInt8) (hy : F.mk y ≠ 0) : GInv m n M (scaleR M' i y) i := by
  have hs : ∀ (x : Nat → F), sumN n (fun k => F.mk (scaleR M' i y i k) * x k) = F.mk y * sumN n (fun k => F.mk (M' i k) * x k) := by
    intro x
    rw [← F.sumN_mul]
    refine F.sumN_congr fun k _ => ?_
    unfold scaleR
    rw [if_pos rfl]
    show F.mk (M' i k) * F.mk y * x k = _
    rw [F.mul_comm (F.mk (M' i k)), F.mul_assoc]
  refine ⟨fun x hx a ha => ?_, fun v hv => h.ker v fun a ha => ?_, fun a b ha hb => ?_⟩
  · by_cases e : a = i
    · subst e
      rw [hs, h.sol x hx a ha]
      unfold scaleR
      rw [if_pos rfl]
      show _ = F.mk (M' a n) * F.mk y
      exact F.mul_comm _ _
    · have := h.sol x hx a ha
      unfold scaleR
      simp only [if_neg e]; exact this
  · by_cases e : a = i
    · subst e
      have := hv a ha
      rw [hs] at this
      exact (F.mul_eq_zero.1 this).elim (fun c => absurd c hy) id
    · have := hv a ha
      unfold scaleR at this
      simp only [if_neg e] at this; exact this
  · unfold scaleR
    by_cases e : a = i
    · rw [if_pos e]
      show F.mk (M' i b) * F.mk y = _
      rw [h.unit i b hi hb, if_neg (by omega), F.zero_mul, if_neg (by omega)]
    · rw [if_neg e]; exact h.unit a b ha hb
theorem GInv.elim {m n : Nat} {M M' : Mx} {i : Nat} (h : GInv m n M M' i) (hi : i < m) (h1 : F.mk (M' i i) = 1) : GInv m n M (elimR M' i) (i + 1) := by
  have hs : ∀ (x : Nat → F) (a : Nat), a ≠ i → sumN n (fun k => F.mk (elimR M' i a k) * x k) = sumN n (fun k => F.mk (M' a k) * x k) + F.mk (M' a i) * sumN n (fun k => F.mk (M' i k) * x k) := by
    intro x a ha
    rw [← F.sumN_mul, ← F.sumN_add]
    refine F.sumN_congr fun k _ => ?_
    unfold elimR
    rw [if_neg ha]
    show (F.mk (M' a k) + F.mk (M' a i) * F.mk (M' i k)) * x k = _
    rw [F.add_mul, F.mul_assoc]
  refine ⟨fun x hx a ha => ?_, fun v hv => h.ker v ?_, fun a b ha hb => ?_⟩
  · by_cases e : a = i
    · have := h.sol x hx a ha
      unfold elimR
      simp only [if_pos e]; exact this
    · rw [hs x a e, h.sol x hx a ha, h.sol x hx i hi]
      unfold elimR
      rw [if_neg e]; rfl
  · have hvi : sumN n (fun k => F.mk (M' i k) * v k) = 0 := by
      have := hv i hi
      unfold elimR at this
      simpa using this
    intro a ha
    by_cases e : a = i
    · rw [e]; exact hvi
    · have := hv a ha
      rw [hs v a e, hvi, F.mul_zero, F.add_zero] at this
      exact this
  · unfold elimR
    by_cases e : a = i
    · rw [if_pos e]
      by_cases eb : b = i
      · rw [e, eb, if_pos rfl]; exact h1
      · exact h.unit a b ha (by omega)
    · rw [if_neg e]
      show F.mk (M' a b) + F.mk (M' a i) * F.mk (M' i b) = _
      by_cases eb : b = i
      · subst eb
        rw [h1, F.mul_one, F.add_self, if_neg e]
      · rw [h.unit a b ha (by omega), h.unit i b hi (by omega), if_neg (by omega : ¬ i = b), F.mul_zero, F.add_zero]
/-- Where no row from i on has anything in column i, there is no one solution. -/
theorem GInv.none {m n : Nat} {M M' : Mx} {i : Nat} (h : GInv m n M M' i) (hin : i < n) (hz : ∀ a, i ≤ a → a < m → M' a i = 0) : ¬ ∃ x, Uniq m n M x := by
  rintro ⟨x, _, hk⟩
  by_cases hm : i < m
  · let v : Nat → F := fun k => if k = i then 1 else if k < i then F.mk (M' k i) else 0
    have hv : Ker m n M' v := by
      intro a ha
      by_cases hai : a < i
      · have hsplit : sumN n (fun k => F.mk (M' a k) * v k) = sumN n (fun k => (if k = a then F.mk (M' a i) else 0) + (if k = i then F.mk (M' a i) else 0)) := by
          refine F.sumN_congr fun k hk => ?_
          by_cases e1 : k = i
          · subst e1
            rw [if_neg (by omega), if_pos rfl, F.zero_add]
            show F.mk (M' a k) * (if k = k then 1 else _) = _
            rw [if_pos rfl, F.mul_one]
          · show F.mk (M' a k) * (if k = i then 1 else if k < i then F.mk (M' k i) else 0) = _
            rw [if_neg e1, if_neg e1, F.add_zero]
            by_cases e2 : k < i
            · rw [if_pos e2, h.unit a k ha e2]
              by_cases e3 : k = a
              · subst e3; rw [if_pos rfl, if_pos rfl, F.one_mul]
              · rw [if_neg (fun c => e3 c.symm), if_neg e3, F.zero_mul]
            · rw [if_neg e2, if_neg (by omega), F.mul_zero]
        rw [hsplit, F.sumN_add, F.sumN_single a (by omega) (fun k _ hk => if_neg hk), F.sumN_single i hin (fun k _ hk => if_neg hk), if_pos rfl, if_pos rfl, F.add_self]
      · refine F.sumN_zero fun k hk => ?_
        show F.mk (M' a k) * (if k = i then 1 else if k < i then F.mk (M' k i) else 0) = 0
        by_cases e1 : k = i
        · subst e1
          rw [hz a (by omega) ha]
          show (0 : F) * _ = 0
          exact F.zero_mul _
        · rw [if_neg e1]
          by_cases e2 : k < i
          · rw [h.unit a k ha e2, if_neg (by omega), F.zero_mul]
          · rw [if_neg e2, F.mul_zero]
    have := hk v (h.ker v hv) i hin
    have e : v i = 1 := if_pos rfl
    rw [e] at this
    exact F.one_ne_zero this
  · -- fewer rows than columns are done: row i is not there; column i is free
    let v : Nat → F := fun k => if k = i then 1 else if k < i then F.mk (M' k i) else 0
    have hv : Ker m n M' v := by
      intro a ha
      have hai : a < i := by omega
      have hsplit : sumN n (fun k => F.mk (M' a k) * v k) = sumN n (fun k => (if k = a then F.mk (M' a i) else 0) + (if k = i then F.mk (M' a i) else 0)) := by
        refine F.sumN_congr fun k hk => ?_
        by_cases e1 : k = i
        · subst e1
          rw [if_neg (by omega), if_pos rfl, F.zero_add]
          show F.mk (M' a k) * (if k = k then 1 else _) = _
          rw [if_pos rfl, F.mul_one]
        · show F.mk (M' a k) * (if k = i then 1 else if k < i then F.mk (M' k i) else 0) = _
          rw [if_neg e1, if_neg e1, F.add_zero]
          by_cases e2 : k < i
          · rw [if_pos e2, h.unit a k ha e2]
            by_cases e3 : k = a
            · subst e3; rw [if_pos rfl, if_pos rfl, F.one_mul]
            · rw [if_neg (fun c => e3 c.symm), if_neg e3, F.zero_mul]
          · rw [if_neg e2, if_neg (by omega), F.mul_zero]
      rw [hsplit, F.sumN_add, F.sumN_single a (by omega) (fun k _ hk => if_neg hk), F.sumN_single i hin (fun k _ hk => if_neg hk), if_pos rfl, if_pos rfl, F.add_self]
    have := hk v (h.ker v hv) i hin
    have e : v i = 1 := if_pos rfl
    rw [e] at this
    exact F.one_ne_zero this
/-- All columns are done: any solution stands in the last column. -/
theorem GInv.last {m n : Nat} {M M' : Mx} (h : GInv m n M M' n) {x : Nat → F} (hx : Sol m n M x) : (∀ a, a < n → a < m → x a = F.mk (M' a n)) ∧ ∀ a, n ≤ a → a < m → M' a n = 0 := by
  refine ⟨fun a han ham => ?_, fun a han ham => ?_⟩
  · have := h.sol x hx a ham
    rw [F.sumN_single a han (fun k hk hne => by rw [h.unit a k ham hk, if_neg (fun c => hne c.symm), F.zero_mul]), h.unit a a ham han, if_pos rfl, F.one_mul] at this
    exact this
  · have := h.sol x hx a ham
    rw [F.sumN_zero (fun k hk => by rw [h.unit a k ham hk, if_neg (by omega), F.zero_mul])] at this
    have e := congrArg F.byte this
    exact e.symm
/-- Only the rows and columns in sight count. -/
theorem GInv.congr {m n : Nat} {M M' N : Mx} {i : Nat} (h : GInv m n M M' i) (hi : i ≤ n) (e : ∀ a k, a < m → k ≤ n → M' a k = N a k) : GInv m n M N i := by
  refine ⟨fun x hx a ha => ?_, fun v hv => h.ker v fun a ha => ?_, fun a b ha hb => by rw [← e a b ha (by omega)]; exact h.unit a b ha hb⟩
  · rw [← e a n ha (Nat.le_refl _), ← h.sol x hx a ha]
    exact F.sumN_congr fun k hk => by rw [e a k ha (by omega)]
  · rw [← hv a ha]
    exact F.sumN_congr fun k hk => by rw [e a k ha (by omega)]
end Go.Proofs.Ytamkahjdedomlaa
namespace Go.Proofs.Ytamkahjdedomlaa
open Go.RowKit
set_option linter.unusedVariables false

structure MatB (w : World) (g B m n : Nat) (blk cap : Nat → Nat) (M : Mx) : Prop where
  row : ∀ a, a < m → w.cell? ⟨g, a, none⟩ = some (.slice (some ⟨blk a, 0, none⟩) (n + 1) (cap a))
  rfree : ∀ a, a < m → w.frozen? ⟨g, a, none⟩ = false
  el : ∀ a k, a < m → k ≤ n → w.cell? ⟨blk a, k, none⟩ = some (.int .u8 ((M a k).toNat : Int))
  free : ∀ a k, a < m → k ≤ n → w.frozen? ⟨blk a, k, none⟩ = false
  inj : ∀ a b, a < m → b < m → blk a = blk b → a = b
  apart : ∀ a, a < m → blk a ≠ g
  low : ∀ a, a < m → B ≤ blk a
  lowg : B ≤ g
def updR (M : Mx) (a k : Nat) (s : UInt8) : Mx := fun a' k' => if a' = a ∧ k' = k then s else M a' k'
section
variable {w : World} {g B m n : Nat} {blk cap : Nat → Nat} {M : Mx}
theorem MatB.drew (h : MatB w g B m n blk cap M) : MatB w.drew g B m n blk cap M := ⟨h.row, h.rfree, h.el, h.free, h.inj, h.apart, h.low, h.lowg⟩
theorem MatB.drewN (h : MatB w g B m n blk cap M) (q : Nat) : MatB (w.drewN q) g B m n blk cap M := ⟨h.row, h.rfree, h.el, h.free, h.inj, h.apart, h.low, h.lowg⟩
theorem MatB.congr {N : Mx} (h : MatB w g B m n blk cap M) (e : ∀ a k, a < m → k ≤ n → M a k = N a k) : MatB w g B m n blk cap N :=
  ⟨h.row, h.rfree, fun a k ha hk => by rw [← e a k ha hk]; exact h.el a k ha hk, h.free, h.inj, h.apart, h.low, h.lowg⟩
theorem MatB.set (h : MatB w g B m n blk cap M) {a k : Nat} (ha : a < m) (hk : k ≤ n) (s : UInt8) : MatB (w.setCell ⟨blk a, k, none⟩ (.int .u8 (s.toNat : Int))) g B m n blk cap (updR M a k s) := by
  refine ⟨fun b hb => ?_, fun b hb => (World.frozen?_setCell _ _ _ _).trans (h.rfree b hb), fun b c hb hc => ?_, fun b c hb hc => (World.frozen?_setCell _ _ _ _).trans (h.free b c hb hc), h.inj, h.apart, h.low, h.lowg⟩
  · rw [← h.row b hb]
    exact World.cell?_setCell_other _ _ _ _ (fun e => h.apart a ha (congrArg Addr.block e))
  · unfold updR
    by_cases e : b = a ∧ c = k
    · obtain ⟨rfl, rfl⟩ := e
      rw [if_pos ⟨rfl, rfl⟩]
      exact World.cell?_setCell_same' _ _ _ (by rw [h.el b c hb hc]; rfl)
    · rw [if_neg e, ← h.el b c hb hc]
      refine World.cell?_setCell_other _ _ _ _ (fun e2 => e ?_)
      have e3 : blk a = blk b := congrArg Addr.block e2
      have e4 : k = c := congrArg Addr.off e2
      exact ⟨(h.inj a b ha hb e3).symm, e4.symm⟩
def swapN (f : Nat → Nat) (i j : Nat) : Nat → Nat := fun a => if a = i then f j else if a = j then f i else f a
def hdrB (blk cap : Nat → Nat) (n a : Nat) : Value := .slice (some ⟨blk a, 0, none⟩) (n + 1) (cap a)
theorem MatB.mid (h : MatB w g B m n blk cap M) {i j : Nat} (hi : i < m) (hj : j < m) : (w.setCell ⟨g, i, none⟩ (hdrB blk cap n j)).cell? ⟨g, j, none⟩ = some (hdrB blk cap n j) := by
  by_cases e : i = j
  · subst e
    exact World.cell?_setCell_same' _ _ _ (by rw [h.row i hi]; rfl)
  · rw [World.cell?_setCell_other _ _ _ _ (fun e2 => e (congrArg Addr.off e2))]
    exact h.row j hj
theorem MatB.midfree (h : MatB w g B m n blk cap M) {i j : Nat} (hi : i < m) (hj : j < m) : (w.setCell ⟨g, i, none⟩ (hdrB blk cap n j)).frozen? ⟨g, j, none⟩ = false :=
  (World.frozen?_setCell _ _ _ _).trans (h.rfree j hj)
theorem MatB.swap (h : MatB w g B m n blk cap M) {i j : Nat} (hi : i < m) (hj : j < m) :
    MatB ((w.setCell ⟨g, i, none⟩ (hdrB blk cap n j)).setCell ⟨g, j, none⟩ (hdrB blk cap n i)) g B m n (swapN blk i j) (swapN cap i j) (swapR M i j) := by
  have hidx : ∀ a, a < m → ∃ b, b < m ∧ swapN blk i j a = blk b ∧ swapN cap i j a = cap b ∧ swapR M i j a = M b ∧ (a = i ∧ b = j ∨ a = j ∧ b = i ∧ a ≠ i ∨ a ≠ i ∧ a ≠ j ∧ b = a) := by
    intro a ha
    unfold swapN swapR
    by_cases h1 : a = i
    · exact ⟨j, hj, by rw [if_pos h1], by rw [if_pos h1], by rw [if_pos h1], Or.inl ⟨h1, rfl⟩⟩
    · by_cases h2 : a = j
      · exact ⟨i, hi, by rw [if_neg h1, if_pos h2], by rw [if_neg h1, if_pos h2], by rw [if_neg h1, if_pos h2], Or.inr (Or.inl ⟨h2, rfl, h1⟩)⟩
      · exact ⟨a, ha, by rw [if_neg h1, if_neg h2], by rw [if_neg h1, if_neg h2], by rw [if_neg h1, if_neg h2], Or.inr (Or.inr ⟨h1, h2, rfl⟩)⟩
  have hel : ∀ b k, b < m → k ≤ n → ((w.setCell ⟨g, i, none⟩ (hdrB blk cap n j)).setCell ⟨g, j, none⟩ (hdrB blk cap n i)).cell? ⟨blk b, k, none⟩ = w.cell? ⟨blk b, k, none⟩ := by
    intro b k hb hk
    rw [World.cell?_setCell_other _ _ _ _ (fun e => h.apart b hb (congrArg Addr.block e).symm), World.cell?_setCell_other _ _ _ _ (fun e => h.apart b hb (congrArg Addr.block e).symm)]
  refine ⟨fun a ha => ?_, fun a ha => (World.frozen?_setCell _ _ _ _).trans ((World.frozen?_setCell _ _ _ _).trans (h.rfree a ha)), fun a k ha hk => ?_, fun a k ha hk => ?_, fun a b ha hb e => ?_, fun a ha => ?_, fun a ha => ?_, h.lowg⟩
  · obtain ⟨b, hb, e1, e2, _, hc⟩ := hidx a ha
    rw [e1, e2]
    by_cases haj : a = j
    · subst haj
      have hbi : b = i := by omega
      subst hbi
      exact World.cell?_setCell_same' _ _ _ (by rw [h.mid hi hj]; rfl)
    · rw [World.cell?_setCell_other _ _ _ _ (fun e => haj (congrArg Addr.off e).symm)]
      by_cases hai : a = i
      · subst hai
        have hbj : b = j := by omega
        subst hbj
        exact World.cell?_setCell_same' _ _ _ (by rw [h.row a ha]; rfl)
      · have hba : b = a := by omega
        subst hba
        rw [World.cell?_setCell_other _ _ _ _ (fun e => hai (congrArg Addr.off e).symm)]
        exact h.row b hb
  · obtain ⟨b, hb, e1, e2, e3, _⟩ := hidx a ha
    rw [e1, e3, hel b k hb hk]; exact h.el b k hb hk
  · obtain ⟨b, hb, e1, _⟩ := hidx a ha
    rw [e1]
    exact (World.frozen?_setCell _ _ _ _).trans ((World.frozen?_setCell _ _ _ _).trans (h.free b k hb hk))
  · obtain ⟨c, hc, e1, _, _, h1⟩ := hidx a ha
    obtain ⟨d, hd, e2, _, _, h2⟩ := hidx b hb
    rw [e1, e2] at e
    have := h.inj c d hc hd e
    omega
  · obtain ⟨c, hc, e1, _⟩ := hidx a ha
    rw [e1]; exact h.apart c hc
  · obtain ⟨c, hc, e1, _⟩ := hidx a ha
    rw [e1]; exact h.low c hc
theorem MatB.kept {w' : World} (h : MatB w g B m n blk cap M) (hb : Below w.heap.size w w') : MatB w' g B m n blk cap M := by
  have hl : ∀ p v, w.cell? p = some v → p.block < w.heap.size := fun p v hp => World.block_lt_of_cell? w p hp
  refine ⟨fun a ha => ?_, fun a ha => ?_, fun a k ha hk => ?_, fun a k ha hk => ?_, h.inj, h.apart, h.low, h.lowg⟩
  · exact (hb.cell (hl _ _ (h.row a ha))).trans (h.row a ha)
  · exact (hb.frozen (hl _ _ (h.row a ha))).trans (h.rfree a ha)
  · exact (hb.cell (hl _ _ (h.el a k ha hk))).trans (h.el a k ha hk)
  · exact (hb.frozen (hl _ _ (h.el a k ha hk))).trans (h.free a k ha hk)
end
end Go.Proofs.Ytamkahjdedomlaa
