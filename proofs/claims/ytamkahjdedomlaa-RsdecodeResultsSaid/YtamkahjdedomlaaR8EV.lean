/-
  Rows of bytes that the call collects: a slice of slices of its own, each row a block of its own.
  errors, walked.
  values, walked.
  The reference's IsCodeword, walked.
-/
import Derived.Test.YtamkahjdedomlaaR8Ga
import Derived.Test.YtamkahjdedomlaaR8FM
import Derived.Maps.AppendAt
import Derived.Test.YtamkahjdedomlaaInts
import Derived.BigQuiet
namespace Go.Proofs.Ytamkahjdedomlaa
open Go.RowKit
set_option linter.unusedVariables false

theorem Try.infoRow : (Try.prog.info? 33).map (fun i => (i.zero, i.size, i.bytes)) = some (some (.slice none 0 0), 1, 24) := by kernel_rfl
theorem ownsB_below {w w' : World} {base n size : Nat} {e : TypeId} {v : Value} {cs : List Value} (h : w.ownsRow base e size v n cs) (hb : Below w.heap.size w w') : w'.ownsRow base e size v n cs := by
  refine ⟨h.1, ?_⟩
  rcases h.2 with e | ⟨g, cap, cur, hv, hgb, hg, r⟩
  · exact Or.inl e
  · exact Or.inr ⟨g, cap, cur, hv, hgb, (hb.block g (Array.getElem?_eq_some_iff.1 hg).1).trans hg, r⟩
theorem ownB_lt {w : World} {base n size : Nat} {e : TypeId} {v : Value} {cs : List Value} (h : w.ownsRow base e size v n cs) {b : Nat} (hb : v.ownBlock = some b) : base ≤ b ∧ b < w.heap.size := by
  rcases h.2 with ⟨hv, _⟩ | ⟨g, cap, cur, hv, hgb, hg, _⟩
  · subst hv; cases hb
  · subst hv
    have : g = b := Option.some.inj hb
    subst this
    exact ⟨hgb, (Array.getElem?_eq_some_iff.1 hg).1⟩
theorem ownsB_grown {w w' : World} {w0 : World} {base B n size : Nat} {e : TypeId} {v : Value} {cs : List Value} (h0 : Below B w0 w) (hown : w.ownsRow base e size v n cs) (hg : w.grownBy w' v.ownBlock) (hB : B ≤ w.heap.size) (hb : B ≤ base) : Below B w0 w' :=
  h0.grown hg hB fun k e => Nat.le_trans hb (ownB_lt hown e).1
theorem Cells.grown {w w' : World} {g : Nat} {l : List UInt8} {row : Option Nat} (h : Cells w g l) (hg : w.grownBy w' row) (hne : row ≠ some g) : Cells w' g l := h.same hg.size (hg.block g h.1 (fun e => hne e.symm))

abbrev RowT := Nat × Nat × List UInt8
def hdrOf (n : Nat) (x : RowT) : Value := .slice (some ⟨x.1, 0, none⟩) (n + 1) x.2.1
structure RowsB (w : World) (B n : Nat) (v : Value) (R : List RowT) : Prop where
  own : w.ownsRow B 33 1 v R.length (R.map (hdrOf n))
  cells : ∀ x ∈ R, Cells w x.1 x.2.2
  len : ∀ x ∈ R, x.2.2.length = n + 1
  low : ∀ x ∈ R, B ≤ x.1
  apart : ∀ x ∈ R, v.ownBlock ≠ some x.1
  nodup : (R.map (·.1)).Nodup
theorem RowsB.start (w : World) (B n : Nat) : RowsB w B n (.slice none 0 0) [] :=
  ⟨World.ownsRow_nil _ _ _ _, fun x h => (by cases h), fun x h => (by cases h), fun x h => (by cases h), fun x h => (by cases h), List.nodup_nil⟩
theorem RowsB.kept {w w' : World} {B n : Nat} {v : Value} {R : List RowT} (h : RowsB w B n v R) (hb : Below w.heap.size w w') : RowsB w' B n v R :=
  ⟨ownsB_below h.own hb, fun x hx => (h.cells x hx).kept hb, h.len, h.low, h.apart, h.nodup⟩
/-- The outer append: the row b was made behind the world of which 'RowsB' speaks (its block is none of theirs). -/
theorem RowsB.push {w w' : World} {B n H : Nat} {v v' : Value} {R : List RowT} {b c : Nat} {l : List UInt8} (h : RowsB w B n v R) (hold : ∀ x ∈ R, x.1 < H) (hown : ∀ k, v.ownBlock = some k → k < H) (hbH : H ≤ b) (hBb : B ≤ b)
    (hc : Cells w b l) (hl : l.length = n + 1)
    (ho : w'.ownsRow B 33 1 v' (R.length + 1) (R.map (hdrOf n) ++ [hdrOf n (b, c, l)])) (hg : w.grownBy w' v.ownBlock) (hv : v'.ownBlock = v.ownBlock ∨ v'.ownBlock = some w.heap.size) : RowsB w' B n v' (R ++ [(b, c, l)]) := by
  have hmem : ∀ (p : RowT → Prop), (∀ x ∈ R, p x) → p (b, c, l) → ∀ x ∈ R ++ [(b, c, l)], p x := by
    intro p h1 h2 x hx
    rcases List.mem_append.1 hx with hx | hx
    · exact h1 x hx
    · rw [List.mem_singleton] at hx; rw [hx]; exact h2
  have hb1 : b < w.heap.size := hc.1
  refine ⟨by rw [List.length_append, List.map_append]; exact ho, hmem _ (fun x hx => (h.cells x hx).grown hg (h.apart x hx)) (hc.grown hg fun e => ?_), hmem _ h.len hl, hmem _ h.low hBb, hmem _ (fun x hx e => ?_) (fun e => ?_), ?_⟩
  · have := hown b e; omega
  · rcases hv with e2 | e2
    · exact h.apart x hx (e2 ▸ e)
    · rw [e2] at e
      have e3 : w.heap.size = x.1 := Option.some.inj e
      have := (h.cells x hx).1
      omega
  · rcases hv with e2 | e2
    · rw [e2] at e
      have := hown b e; omega
    · rw [e2] at e
      have e3 : w.heap.size = b := Option.some.inj e
      omega
  · rw [List.map_append, List.nodup_append]
    refine ⟨h.nodup, by simp, fun y hy z hz e => ?_⟩
    obtain ⟨x, hx, rfl⟩ := List.mem_map.1 hy
    simp only [List.map_cons, List.map_nil, List.mem_singleton] at hz
    have := hold x hx
    omega
def rowAt (R : List RowT) (a : Nat) : RowT := R[a]?.getD (0, 0, [])
theorem rowAt_mem {R : List RowT} {a : Nat} (h : a < R.length) : rowAt R a ∈ R := by
  unfold rowAt; rw [List.getElem?_eq_getElem h]; exact List.getElem_mem _
def rowsM (R : List RowT) : Mx := fun a k => (rowAt R a).2.2[k]?.getD 0
theorem RowsB.mat {w : World} {B n : Nat} {v : Value} {R : List RowT} (h : RowsB w B n v R) (h0 : 0 < R.length) :
    ∃ g cap, v = .slice (some ⟨g, 0, none⟩) R.length cap ∧ MatB w g B R.length n (fun a => (rowAt R a).1) (fun a => (rowAt R a).2.1) (rowsM R) := by
  have h' := h.own
  rcases h.own.2 with ⟨hv, hz⟩ | ⟨g, cap, cur, hv, hb, hg, hnc, hcm, hcs, htake⟩
  · omega
  · subst hv
    refine ⟨g, cap, rfl, fun a ha => ?_, fun a ha => h'.frozenAt a, fun a k ha hk => ?_, fun a k ha hk => ?_, fun a b ha hb' e => ?_, fun a ha e => ?_, fun a ha => h.low _ (rowAt_mem ha), hb⟩
    · have := h'.cellAt a (by omega)
      rw [this, List.getElem?_map]
      unfold rowAt
      rw [List.getElem?_eq_getElem ha]; rfl
    · exact (h.cells _ (rowAt_mem ha)).at k (by rw [h.len _ (rowAt_mem ha)]; omega)
    · exact (h.cells _ (rowAt_mem ha)).free k (by rw [h.len _ (rowAt_mem ha)]; omega)
    · have e' : (R.map (·.1))[a]'(by rw [List.length_map]; exact ha) = (R.map (·.1))[b]'(by rw [List.length_map]; exact hb') := by
        have e2 : (rowAt R a).1 = (rowAt R b).1 := e
        unfold rowAt at e2
        rw [List.getElem?_eq_getElem ha, List.getElem?_eq_getElem hb'] at e2
        simpa using e2
      rcases Nat.lt_trichotomy a b with hlt | hlt | hlt
      · exact absurd e' (List.pairwise_iff_getElem.1 (List.nodup_iff_pairwise_ne.1 h.nodup) a b _ _ hlt)
      · exact hlt
      · exact absurd e'.symm (List.pairwise_iff_getElem.1 (List.nodup_iff_pairwise_ne.1 h.nodup) b a _ _ hlt)
    · exact h.apart _ (rowAt_mem ha) (by rw [← e]; rfl)
theorem RowsB.form {w : World} {B n : Nat} {v : Value} {R : List RowT} (h : RowsB w B n v R) : (v = .slice none 0 0 ∧ R = []) ∨ ∃ g cap, v = .slice (some ⟨g, 0, none⟩) R.length cap ∧ MatB w g B R.length n (fun a => (rowAt R a).1) (fun a => (rowAt R a).2.1) (rowsM R) := by
  rcases h.own.2 with ⟨hv, hz⟩ | ⟨g, cap, cur, hv, hb, hg, hnc, hcm, hcs, htake⟩
  · exact Or.inl ⟨hv, List.eq_nil_of_length_eq_zero hz⟩
  · by_cases h0 : 0 < R.length
    · exact Or.inr (h.mat h0)
    · subst hv
      exact Or.inr ⟨g, cap, rfl, fun a ha => absurd ha (by omega), fun a ha => absurd ha (by omega), fun a k ha => absurd ha (by omega), fun a k ha => absurd ha (by omega), fun a b ha => absurd ha (by omega), fun a ha => absurd ha (by omega), fun a ha => absurd ha (by omega), hb⟩
theorem gauss_rows (R : List RowT) (B m n : Nat) (v : Value) (w : World) (h : RowsB w B n v R) (hR : R.length = m) (hm : m ≤ 100) (hnm : n ≤ m) (hBw : B ≤ w.heap.size) :
    Calls Try.prog 61 #[v, .int .i64 n] w fun e w' => Below B w w' ∧
      ((∃ v out, e = .returned (.tuple #[v, .bool true]) ∧ out.length = n ∧ Sl w' w.heap.size v out ∧ ∀ x, Sol m n (rowsM R) x → ∀ a, a < n → x a = F.mk (out[a]?.getD 0)) ∨ (e = .returned (.tuple #[.slice none 0 0, .bool false]) ∧ ¬ ∃ x, Uniq m n (rowsM R) x)) := by
  rcases h.form with ⟨rfl, rfl⟩ | ⟨g, cap, rfl, hM⟩
  · have hn : n = 0 := by simp only [List.length_nil] at hR; omega
    subst hn
    refine (gauss_none 0 w).mono ?_
    rintro e w' ⟨rfl, rfl⟩
    exact ⟨Below.refl _ _, Or.inl ⟨_, [], rfl, rfl, Or.inl ⟨_, _, rfl, rfl⟩, fun x _ a ha => by omega⟩⟩
  · rw [hR] at hM ⊢
    exact gauss_any m n g cap B _ _ _ w hm hnm hBw hM
theorem Sol.congr {m n : Nat} {M N : Mx} (e : ∀ a k, a < m → k ≤ n → M a k = N a k) {x : Nat → F} (h : Sol m n M x) : Sol m n N x := fun a ha => by
  rw [← e a n ha (Nat.le_refl _), ← h a ha]
  exact F.sumN_congr fun k hk => by rw [e a k ha (by omega)]
theorem Ker.congr {m n : Nat} {M N : Mx} (e : ∀ a k, a < m → k ≤ n → M a k = N a k) {x : Nat → F} (h : Ker m n M x) : Ker m n N x := fun a ha => by
  rw [← h a ha]
  exact F.sumN_congr fun k hk => by rw [e a k ha (by omega)]
theorem Uniq.congr {m n : Nat} {M N : Mx} (e : ∀ a k, a < m → k ≤ n → M a k = N a k) {x : Nat → F} (h : Uniq m n M x) : Uniq m n N x :=
  ⟨h.1.congr e, fun v hv => h.2 v (hv.congr fun a k ha hk => (e a k ha hk).symm)⟩
theorem wpList_append_row {P : Program} {w : World} {ops : Array Oper} {rest : List Oper} {o : Oper} {a : Act} {Q : Exit → Act → World → Prop} (hgd : o.guard = none) (s x : Operand) (t e : TypeId)
    (ho : o.op = .call { callee := .builtin .append, args := #[s, x], argTypes := #[t, t] }) (ht : P.underlying t = some (.slice e)) (h2 : (P.info? e).map (fun i => (i.zero, i.size, i.bytes)) = some (some (.slice none 0 0), 1, 24))
    (base : Nat) (v : Value) (n : Nat) (L : List Value) (hs : a.eval s = v) (hown : w.ownsRow base e 1 v n L) (hbase : base ≤ w.heap.size)
    (g cap : Nat) (u : Value) (hu : u.oneCell' = true) (hx : a.eval x = .slice (some ⟨g, 0, none⟩) 1 cap) (hc : w.cell? ⟨g, 0, none⟩ = some u) (hb : n ≤ 100000)
    (h : ∀ v' w', w'.ownsRow base e 1 v' (n + 1) (L ++ [u]) → w.grownBy w' v.ownBlock → (v'.ownBlock = v.ownBlock ∨ v'.ownBlock = some w.heap.size) → wpList P ops Q rest (a.put o.dst v') w') : wpList P ops Q (o :: rest) a w := by
  obtain ⟨i, hi, hz0, hz1, hz2⟩ := info_parts h2
  refine wpList_append_own_at w hgd s x t ho base e i _ 1 24 ht hi hz0 hz1 hz2 rfl (by decide) v n L hs hown ⟨g, 0, none⟩ 1 cap [u] hx rfl (fun j z hj => ?_) (fun z hz => ?_) (by unfold maxLen; omega) (by omega) hbase (fun v' w' h1 h2 _ h3 => h v' w' h1 h2 h3)
  · match j, hj with
    | 0, hj => cases hj; exact hc
  · rw [List.mem_singleton] at hz; rw [hz]; exact hu
end Go.Proofs.Ytamkahjdedomlaa
namespace Go.Proofs.Ytamkahjdedomlaa
open Go.RowKit
set_option linter.unusedVariables false

def errRow (t : List UInt8) (e j : Nat) : List UInt8 := ((List.range e).map fun k => t[j - (k + 1)]?.getD 0) ++ [t[j]?.getD 0]
def errPre (t : List UInt8) (j k : Nat) : List UInt8 := (List.range k).map fun i => t[j - (i + 1)]?.getD 0
theorem errPre_succ (t : List UInt8) (j k : Nat) : errPre t j (k + 1) = errPre t j k ++ [t[j - (k + 1)]?.getD 0] := by
  unfold errPre; rw [List.range_succ, List.map_append]; rfl
theorem errPre_len (t : List UInt8) (j k : Nat) : (errPre t j k).length = k := by unfold errPre; simp
theorem errRow_eq (t : List UInt8) (e j : Nat) : errRow t e j = errPre t j e ++ [t[j]?.getD 0] := rfl
/-- The system of the error locator. -/
def errM (t : List UInt8) (e b : Nat) : Mx := fun a k => if k < e then t[b + a - (k + 1)]?.getD 0 else t[b + a]?.getD 0
theorem errRow_get (t : List UInt8) (e j k : Nat) (hk : k ≤ e) : (errRow t e j)[k]?.getD 0 = if k < e then t[j - (k + 1)]?.getD 0 else t[j]?.getD 0 := by
  unfold errRow
  by_cases h : k < e
  · rw [if_pos h, List.getElem?_append_left (by simpa using h), List.getElem?_map, List.getElem?_range h]; rfl
  · have : k = e := by omega
    subst this
    rw [if_neg h, List.getElem?_append_right (by simp), List.length_map, List.length_range, Nat.sub_self]; rfl
/-- The locator at a place. -/
def locTo (loc : List UInt8) (x : UInt8) : Nat → UInt8
  | 0 => 1
  | k + 1 => locTo loc x k ^^^ F.mulB (loc[k]?.getD 0) (F.powB x (k + 1))
def rootB (loc : List UInt8) (n e : Nat) (lost : List Int) (i : Nat) : Bool := decide (locTo loc (F.invB (F.expB (n - 1 - i))) e = 0) && !decide ((i : Int) ∈ lost)
def rootsTo (loc : List UInt8) (n e : Nat) (lost : List Int) (k : Nat) : List Int := ((List.range k).filter (rootB loc n e lost)).map fun i : Nat => (i : Int)
theorem rootsTo_yes {loc : List UInt8} {n e : Nat} {lost : List Int} {k : Nat} (h : rootB loc n e lost k = true) : rootsTo loc n e lost (k + 1) = rootsTo loc n e lost k ++ [(k : Int)] := by
  unfold rootsTo
  rw [List.range_succ, List.filter_append, List.map_append]
  simp [h]
theorem rootsTo_no {loc : List UInt8} {n e : Nat} {lost : List Int} {k : Nat} (h : rootB loc n e lost k = false) : rootsTo loc n e lost (k + 1) = rootsTo loc n e lost k := by
  unfold rootsTo
  rw [List.range_succ, List.filter_append, List.map_append]
  simp [h]
theorem rootsTo_len (loc : List UInt8) (n e : Nat) (lost : List Int) (k : Nat) : (rootsTo loc n e lost k).length ≤ k := by
  unfold rootsTo
  rw [List.length_map]
  exact Nat.le_trans (List.length_filter_le _ _) (by rw [List.length_range]; exact Nat.le_refl _)
theorem row_of_owns {w : World} {base n : Nat} {e : TypeId} {v : Value} {l : List UInt8} (h : w.ownsRow base e 1 v n (l.map u8v)) (hn : l.length = n) (h0 : 0 < n) : ∃ b c, v = .slice (some ⟨b, 0, none⟩) n c ∧ base ≤ b ∧ Cells w b l := by
  subst hn
  rcases sl_of_owns h with ⟨a, cap, _, hl⟩ | ⟨g, cap, h1, h2, h3, h4, h5, h6⟩
  · rw [hl] at h0; simp at h0
  · exact ⟨g, cap, h1, h5, h6⟩
theorem cell_new (w : World) (u : Value) (e : TypeId) : (w.alloc (.cells #[u] e)).cell? ⟨w.heap.size, 0, none⟩ = some u := by
  rw [World.cell?_alloc_mark]; rfl
theorem slForm {w : World} {B : Nat} {v : Value} {l : List UInt8} (h : Sl w B v l) : ∃ a cap, v = .slice a l.length cap ∧ ∀ i, i < l.length → ∃ b, a = some ⟨b, 0, none⟩ ∧ b < w.heap.size ∧ w.cell? ⟨b, i, none⟩ = some (.int .u8 ((l[i]?.getD 0).toNat : Int)) := by
  rcases h with ⟨a, cap, rfl, rfl⟩ | ⟨g, cap, h1, h2, h3, h4, h5, h6⟩
  · exact ⟨a, cap, rfl, fun i hi => by simp at hi⟩
  · exact ⟨_, cap, h1, fun i hi => ⟨g, rfl, h6.1, h6.at i hi⟩⟩
theorem rowAt_old {R : List RowT} {x : RowT} {i : Nat} (h : i < R.length) : rowAt (R ++ [x]) i = rowAt R i := by
  unfold rowAt; rw [List.getElem?_append_left h]
theorem rowAt_new {R : List RowT} {x : RowT} {i : Nat} (h : R.length = i) : rowAt (R ++ [x]) i = x := by
  unfold rowAt; rw [List.getElem?_append_right (by omega), h, Nat.sub_self]; rfl
def RowsErr (w0 : World) (t : List UInt8) (e b a : Nat) (v : Value) (wr : World) : Prop :=
  ∃ R : List RowT, RowsB wr w0.heap.size e v R ∧ R.length = a ∧ (∀ i, i < a → (rowAt R i).2.2 = errRow t e (b + i)) ∧ Below w0.heap.size w0 wr
theorem rpow_r {y r : UInt8} {k : Nat} (hk : k < 1000000) (h : Hid (F.powB y k = r)) (w : World) : Calls Try.prog 63 #[.int .u8 y.toNat, .int .i64 k] w fun e w' => e = .returned (.int .u8 r.toNat) ∧ w = w' := by
  rw [← h.out]; exact rpower_any y k hk w
theorem rmul_r8 {a b r : UInt8} (h : Hid (F.mulB a b = r)) (w : World) : Calls Try.prog 60 #[.int .u8 a.toNat, .int .u8 b.toNat] w fun e w' => e = .returned (.int .u8 r.toNat) ∧ w = w' := by
  rw [← h.out]; exact rmul_any a b w
theorem errM_rows (t : List UInt8) (e b m : Nat) (R : List RowT) (h : ∀ i, i < m → (rowAt R i).2.2 = errRow t e (b + i)) : ∀ a k, a < m → k ≤ e → rowsM R a k = errM t e b a k := by
  intro a k ha hk
  unfold rowsM errM
  rw [h a ha, errRow_get t e (b + a) k hk]
set_option maxRecDepth 100000 in
set_option maxHeartbeats 4000000 in
theorem errors_any (g cg p n e s m : Nat) (t : List UInt8) (vl : Value) (lost : List Int) (w : World) (ht : Cells w g t) (hp : t.length = p) (hp2 : p ≤ 64) (hn : n ≤ 255) (hs : lost.length = s) (hse : s + 2 * e ≤ p) (hm : m = p - (s + e)) (hl : RdI w vl lost) :
    Calls Try.prog 38 #[.slice (some ⟨g, 0, none⟩) p cg, .int .i64 n, .int .i64 e, vl] w fun ex w' => Below w.heap.size w w' ∧
      ((∃ v loc, ex = .returned (.tuple #[v, .bool (decide ((rootsTo loc n e lost n).length = e))]) ∧ SlI w' w.heap.size v (rootsTo loc n e lost n) ∧ loc.length = e ∧ ∀ x, Sol m e (errM t e (s + e)) x → ∀ a, a < e → x a = F.mk (loc[a]?.getD 0)) ∨
       (ex = .returned (.tuple #[.slice none 0 0, .bool false]) ∧ ¬ ∃ x, Uniq m e (errM t e (s + e)) x)) := by
  have HL := Lib.hid hl
  obtain ⟨al, ol, cl, rfl, hf⟩ := hl.form
  rw [hs] at hf HL ⊢
  have HT := Lib.hid ht
  have HP := Lib.hid hp
  have HS := Lib.hid hs
  clear hf hs ht hp hl
  obtain ⟨b, hb⟩ : ∃ b, s + e = b := ⟨_, rfl⟩
  have hbp : b + e ≤ p := by omega
  have hmb : m + b = p := by omega
  have hbe : e ≤ b := by omega
  have hs64 : s ≤ 64 := by omega
  rw [hb]
  have ewb : IntKind.i64.wrap ((s : Int) + (e : Int)) = (b : Int) := by rw [show (s : Int) + (e : Int) = b by omega]; exact IntWalk.i64_in _ (by omega)
  clear hm hb hse
  have hmp := hmb
  clear hmb
  go_enter Try.func38, Try.ntmps38
  go_wp2_with fail
  clear ewb
  go_loopw [10, 12] (fun v10 v12 wr => ∃ a : Nat, a ≤ m ∧ v12 = .int .i64 ((b + a : Nat) : Int) ∧ Hid (RowsErr w t e b a v10 wr)) (fun _ v12 _ => p - (intOf v12).toNat)
  case atStart => exact ⟨0, Nat.zero_le _, rfl, [], RowsB.start _ _ _, rfl, fun i hi => by omega, Below.refl _ _⟩
  case round =>
    obtain ⟨a, ha, rfl, HR⟩ := hrel
    obtain ⟨wo, rfl⟩ : ∃ x : World, x = wr := ⟨_, rfl⟩
    obtain ⟨j, hj⟩ : ∃ j, b + a = j := ⟨_, rfl⟩
    rw [hj]
    by_cases hlt : j < p
    · obtain ⟨R, hR, hRl, hRr, hB⟩ := HR.out
      have HRB := Lib.hid hR
      have HRL := Lib.hid hRl
      have HRR := Lib.hid hRr
      have HB := Lib.hid hB
      have HJ := Lib.hid hj
      have hlow : w.heap.size ≤ wo.heap.size := hB.size
      have hbj : e ≤ j := by omega
      clear hR hRl hRr hB HR hj
      go_wp2_with fail
      go_loopw [13, 14] (fun v13 v14 wr => ∃ k : Nat, k ≤ e ∧ v14 = .int .i64 ((k + 1 : Nat) : Int) ∧ Hid (wr.ownsRow wo.heap.size 5 1 v13 k ((errPre t j k).map u8v) ∧ Below wo.heap.size wo wr)) (fun _ v14 _ => e + 1 - (intOf v14).toNat)
      case atStart => exact ⟨0, Nat.zero_le _, rfl, World.ownsRow_nil _ _ _ _, Below.refl _ _⟩
      case round =>
        obtain ⟨k, hk, rfl, HO⟩ := hrel
        obtain ⟨wk, rfl⟩ : ∃ x : World, x = wr := ⟨_, rfl⟩
        have hsz : wo.heap.size ≤ wk.heap.size := HO.out.2.size
        have HTk := Lib.hid ((HT.out.kept (HB.out)).kept HO.out.2)
        have HLn := Lib.hid (errPre_len t j k)
        obtain ⟨k1, hk1⟩ : ∃ k1, k + 1 = k1 := ⟨_, rfl⟩
        have HST := Lib.hid (errPre_succ t j k)
        rw [hk1] at HST ⊢
        have HK1 := Lib.hid hk1
        by_cases hke : k1 ≤ e
        · obtain ⟨q, hq⟩ : ∃ q, j - k1 = q := ⟨_, rfl⟩
          have hqp : q < p := by omega
          have hcq := HTk.out.at q (by rw [HP.out]; exact hqp)
          rw [hq] at HST
          obtain ⟨z, hz⟩ : ∃ z, t[q]?.getD 0 = z := ⟨_, rfl⟩
          rw [hz] at hcq HST
          have ewq : IntKind.i64.wrap ((j : Int) - (k1 : Int)) = (q : Int) := by rw [show (j : Int) - (k1 : Int) = q by omega]; exact IntWalk.i64_in _ (by omega)
          clear hz hq hk1
          go_wp2_with (at_builtin; refine wpList_append_bytes rfl _ _ 33 5 rfl Try.underlying33 Try.infoU8 wo.heap.size u13 (errPre t j k) rfl (by rw [HLn.out]; exact HO.out.1.alloc _) (by simp; omega) wk.heap.size 1 1 [z] rfl rfl (cells_one wk z _) (by rw [HLn.out]; simp; omega) ?_; intro v' w4 hown hgr)
          have HO' : Hid (w4.ownsRow wo.heap.size 5 1 v' k1 ((errPre t j k1).map u8v) ∧ Below wo.heap.size wo w4) := by
            refine ⟨?_, (HO.out.2.alloc hsz _).grown hgr (by simp; omega) (fun j hj => (HO.out.1.lt j hj).1)⟩
            rw [HST.out, ← HK1.out]
            have := hown
            rw [List.length_append, HLn.out] at this
            exact this
          clear hown hgr
          go_roundw
          case rel => exact ⟨k1, hke, by go_num, HO'.out⟩
          case measure => simp [intOf] <;> omega
        · have hke' : k = e := by omega
          have hke2 : e < k1 := by omega
          have hO2 := HO.out
          have hlo := errPre_len t j e
          rw [hke'] at hO2
          have HO2 := Lib.hid hO2
          have HLe := Lib.hid hlo
          have hcj := HTk.out.at j (by rw [HP.out]; exact hlt)
          obtain ⟨z, hz⟩ : ∃ z, t[j]?.getD 0 = z := ⟨_, rfl⟩
          have HRW : Hid (errRow t e j = errPre t j e ++ [z]) := by unfold Hid; rw [errRow_eq, hz]
          rw [hz] at hcj
          have hRo : ∀ x ∈ R, x.1 < wo.heap.size := fun x hx => (HRB.out.cells x hx).1
          have HOo : Hid (∀ k, u10.ownBlock = some k → k < wo.heap.size) := fun k h => (ownB_lt HRB.out.own h).2
          have HRo := Lib.hid hRo
          clear hz hO2 hlo hk1 hke' HST hRo
          go_wp2_with first
            | (at_builtin; refine wpList_append_bytes rfl _ _ 33 5 rfl Try.underlying33 Try.infoU8 wo.heap.size u13 (errPre t j e) rfl (by rw [HLe.out]; exact HO2.out.1.alloc _) (by simp; omega) wk.heap.size 1 1 [z] rfl rfl (cells_one wk z _) (by rw [HLe.out]; simp; omega) ?_; intro v' w4 hown hgr; have HO4 : Hid (w4.ownsRow wo.heap.size 5 1 v' (e + 1) ((errRow t e j).map u8v) ∧ Below wo.heap.size wo w4) := (by (refine ⟨?_, (HO2.out.2.alloc hsz _).grown hgr (by simp; omega) (fun j hj => (HO2.out.1.lt j hj).1)⟩; rw [HRW.out]; have := hown; rw [List.length_append, HLe.out] at this; exact this)); obtain ⟨bb, cc, hv', hbb, hcb⟩ := row_of_owns HO4.out.1 (by rw [HRW.out, List.length_append, HLe.out]; rfl) (by omega); subst hv'; have HCB := Lib.hid hcb; have HR4 : Hid (RowsB (w4.alloc (.cells #[hdrOf e (bb, cc, errRow t e j)] 33)) w.heap.size e u10 R) := (HRB.out.kept HO4.out.2).kept ((Below.refl w4.heap.size w4).alloc (Nat.le_refl _) _); have hlo4 : w.heap.size ≤ w4.heap.size := Nat.le_trans hlow HO4.out.2.size; clear hown hgr hcb)
            | (at_builtin; refine wpList_append_row rfl _ _ 82 33 rfl Try.underlying82 Try.infoRow w.heap.size u10 R.length (R.map (hdrOf e)) rfl HR4.out.own (by simp; omega) w4.heap.size 1 (hdrOf e (bb, cc, errRow t e j)) rfl rfl (cell_new w4 _ _) (by rw [HRL.out]; omega) ?_; intro v6 w6 ho6 hg6 hv6)
          have HR6 : Hid (RowsErr w t e b (a + 1) v6 w6) := by
            refine ⟨R ++ [(bb, cc, errRow t e j)], HR4.out.push HRo.out HOo.out hbb (Nat.le_trans hlow hbb) (HCB.out.alloc _) (by rw [HRW.out, List.length_append, HLe.out]; rfl) ho6 hg6 hv6, by rw [List.length_append, HRL.out]; rfl, fun i hi => ?_, ownsB_grown ((HB.out.trans (HO4.out.2.mono hlow)).alloc hlo4 _) HR4.out.own hg6 (by simp; omega) (Nat.le_refl _)⟩
            by_cases e1 : i = a
            · rw [rowAt_new (by rw [HRL.out, e1]), e1, HJ.out]
            · rw [rowAt_old (by rw [HRL.out]; omega)]; exact HRR.out i (by omega)
          have HJ1 : Hid (b + (a + 1) = j + 1) := by have := HJ.out; unfold Hid; omega
          clear ho6 hg6 hv6
          go_roundw
          case rel => exact ⟨a + 1, by have := HJ.out; omega, by rw [HJ1.out]; go_num, HR6.out⟩
          case measure => simp [intOf] <;> omega
    · have ham : a = m := by omega
      obtain ⟨R, hR, hRl, hRr, hB⟩ := HR.out
      rw [ham] at hRl hRr
      have HEM := Lib.hid (errM_rows t e b m R hRr)
      have HRB := Lib.hid hR
      have HRL := Lib.hid hRl
      have HB := Lib.hid hB
      have hvf : ∃ aa cc, u10 = .slice aa m cc := by
        rcases hR.form with ⟨h1, h2⟩ | ⟨g, cap, h1, _⟩
        · exact ⟨none, 0, by rw [h1, ← hRl, h2]; rfl⟩
        · exact ⟨_, cap, by rw [h1, hRl]⟩
      obtain ⟨aa, cc, rfl⟩ := hvf
      have hlow : w.heap.size ≤ wo.heap.size := hB.size
      have hpj : p ≤ j := by omega
      have hme : ¬ m < e := by omega
      clear hR hRl hRr hB HR ham hj
      go_wp2_with fail
      refine (gauss_rows R w.heap.size m e _ wo HRB.out HRL.out (by omega) (by omega) hlow).mono ?_
      rintro ex w5 ⟨hb5, ⟨vl, loc, rfl, hloc, hsl, hsol⟩ | ⟨rfl, hno⟩⟩
      · have HB5 : Hid (Below w.heap.size w w5) := HB.out.trans hb5
        have HSOL : Hid (∀ x, Sol m e (errM t e b) x → ∀ a, a < e → x a = F.mk (loc[a]?.getD 0)) := fun x hx => hsol x (hx.congr fun a k ha hk => (HEM.out a k ha hk).symm)
        obtain ⟨aV, cV, rfl, hfV⟩ := slForm hsl
        rw [hloc] at hfV ⊢
        have HFV := Lib.hid hfV
        have HLOC := Lib.hid hloc
        have hlow5 : w.heap.size ≤ w5.heap.size := HB5.out.size
        have HL5 := Lib.hid (HL.out.kept HB5.out)
        clear hb5 hloc hsl hsol hfV HRB HRL HEM HB
        go_wp2_with fail
        go_loopw [17, 18] (fun v17 v18 wr => ∃ i : Nat, i ≤ n ∧ v18 = .int .i64 i ∧ Hid (wr.ownsRow w5.heap.size 3 1 v17 (rootsTo loc n e lost i).length ((rootsTo loc n e lost i).map i64v) ∧ Below w5.heap.size w5 wr)) (fun _ v18 _ => n - (intOf v18).toNat)
        case atStart => exact ⟨0, Nat.zero_le _, rfl, World.ownsRow_nil _ _ _ _, Below.refl _ _⟩
        case round =>
          obtain ⟨i, hi, rfl, HO⟩ := hrel
          obtain ⟨wi, rfl⟩ : ∃ x : World, x = wr := ⟨_, rfl⟩
          have hlowi : w5.heap.size ≤ wi.heap.size := HO.out.2.size
          by_cases hin : i < n
          · have HRT := Lib.hid (rootsTo_len loc n e lost i)
            have HYES : Hid (rootB loc n e lost i = true → rootsTo loc n e lost (i + 1) = rootsTo loc n e lost i ++ [(i : Int)]) := rootsTo_yes
            have HNO : Hid (rootB loc n e lost i = false → rootsTo loc n e lost (i + 1) = rootsTo loc n e lost i) := rootsTo_no
            have HROOT : Hid (rootB loc n e lost i = (decide (locTo loc (F.invB (F.expB (n - 1 - i))) e = 0) && !decide ((i : Int) ∈ lost))) := rfl
            go_wp2_with fail
            refine (element_any i n hin hn _).mono ?_
            rintro ex w6 ⟨rfl, rfl⟩
            have hx0 : F.expB (n - 1 - i) ≠ 0 := fun h => F.exp_ne_zero (n - 1 - i) (congrArg F.mk h)
            obtain ⟨x, hx⟩ : ∃ x, F.expB (n - 1 - i) = x := ⟨_, rfl⟩
            rw [hx] at HROOT hx0 ⊢
            go_wp2_with fail
            refine (rinv_nz x hx0 _).mono ?_
            rintro ex w6 ⟨rfl, rfl⟩
            obtain ⟨y, hy⟩ : ∃ y, F.invB x = y := ⟨_, rfl⟩
            rw [hy] at HROOT ⊢
            clear hx hx0 hy
            go_wp2_with fail
            go_loopw [21, 22] (fun v21 v22 wr => ∃ k : Nat, k ≤ e ∧ v22 = .int .i64 ((k + 1 : Nat) : Int) ∧ v21 = .int .u8 (locTo loc y k).toNat ∧ Hid (∃ q, wr = wi.drewN q)) (fun _ v22 _ => e + 1 - (intOf v22).toNat)
            case atStart => exact ⟨0, Nat.zero_le _, rfl, rfl, 0, rfl⟩
            case round =>
              obtain ⟨k, hk, rfl, rfl, HW⟩ := hrel
              obtain ⟨wk, rfl⟩ : ∃ z : World, z = wr := ⟨_, rfl⟩
              obtain ⟨k1, hk1⟩ : ∃ k1, k + 1 = k1 := ⟨_, rfl⟩
              have HLS : Hid (locTo loc y k1 = locTo loc y k ^^^ F.mulB (loc[k]?.getD 0) (F.powB y k1)) := by unfold Hid; rw [← hk1]; rfl
              have HK1 := Lib.hid hk1
              rw [hk1]
              by_cases hke : k1 ≤ e
              · have hkl : k < e := by omega
                obtain ⟨bV, rfl, hbV, hcV⟩ := HFV.out k hkl
                have hcV' : wk.cell? ⟨bV, k, none⟩ = some (.int .u8 ((loc[k]?.getD 0).toNat : Int)) := by
                  obtain ⟨q, rfl⟩ := HW.out
                  exact (HO.out.2.cell (p := ⟨bV, k, none⟩) hbV).trans hcV
                obtain ⟨c, hc⟩ : ∃ c, loc[k]?.getD 0 = c := ⟨_, rfl⟩
                obtain ⟨pw, hpw⟩ : ∃ c, F.powB y k1 = c := ⟨_, rfl⟩
                rw [hc] at hcV' HLS
                rw [hpw] at HLS
                obtain ⟨r1, hr1⟩ : ∃ r, F.mulB c pw = r := ⟨_, rfl⟩
                rw [hr1] at HLS
                obtain ⟨l0, hl0⟩ : ∃ l0, locTo loc y k = l0 := ⟨_, rfl⟩
                rw [hl0] at HLS ⊢
                obtain ⟨nw, hnw⟩ : ∃ s, l0 ^^^ r1 = s := ⟨_, rfl⟩
                rw [hnw] at HLS
                have HPW := Lib.hid hpw
                have HR1 := Lib.hid hr1
                have hxs : bits .xor .u8 (l0.toNat : Int) (r1.toNat : Int) = (nw.toNat : Int) := by rw [u8_xor_nat _ _ l0.toNat_lt r1.toNat_lt, ← hnw, UInt8.toNat_xor]
                have ewk : IntKind.i64.wrap ((k1 : Int) - 1) = (k : Int) := by rw [show (k1 : Int) - 1 = k by omega]; exact IntWalk.i64_in _ (by omega)
                have hk1m : k1 < 1000000 := by omega
                clear hc hpw hr1 hl0 hnw hcV hk1
                go_wp2_with fail
                go_quiet (first
                  | (go_at_call 63; exact quiet_same (rpow_r hk1m HPW _))
                  | (go_at_call 60; exact quiet_same (rmul_r8 HR1 _)))
                go_wp2
                go_roundw
                case rel => exact ⟨k1, hke, by go_num, by rw [HLS.out], by obtain ⟨q, hq⟩ := HW.out; exact ⟨q + nq, by rw [hq, World.drewN_drewN]⟩⟩
                case measure => simp [intOf] <;> omega
              · have hke' : k = e := by omega
                have hke2 : e < k1 := by omega
                obtain ⟨q, hq⟩ := HW.out
                have HO' : Hid (wk.ownsRow w5.heap.size 3 1 u17 (rootsTo loc n e lost i).length ((rootsTo loc n e lost i).map i64v) ∧ Below w5.heap.size w5 wk) := by unfold Hid; rw [hq]; exact ⟨owns_drewN HO.out.1 q, bdN HO.out.2 q⟩
                have HLk : Hid (RdI wk (.slice al s cl) lost) := HL5.out.kept HO'.out.2
                have hlowk : w5.heap.size ≤ wk.heap.size := HO'.out.2.size
                obtain ⟨sm, hsm⟩ : ∃ z, locTo loc y k = z := ⟨_, rfl⟩
                have hsm2 : locTo loc y e = sm := by rw [← hke']; exact hsm
                rw [hsm2] at HROOT
                rw [hsm]
                clear hsm hsm2 hq HW HO hk1 hke'
                by_cases hs0 : sm = 0
                · have hsb : ((sm.toNat : Int) == 0) = true := by rw [hs0]; rfl
                  have hsb2 : (sm.toNat == 0) = true := by rw [hs0]; rfl
                  have hd0 := decide_eq_true hs0
                  rw [hd0] at HROOT
                  clear hs0 hd0
                  go_wp2_with fail
                  refine (has_any _ lost (i : Int) wk HLk.out (by rw [HS.out]; omega)).mono ?_
                  rintro ex w7 ⟨rfl, rfl⟩
                  by_cases hil : (i : Int) ∈ lost
                  · have hd := decide_eq_true hil
                    rw [hd] at HROOT ⊢
                    have HN' := HNO.out (by rw [HROOT.out]; rfl)
                    clear hil hd
                    go_wp2_with fail
                    go_roundw
                    case rel => exact ⟨i + 1, by omega, by go_num, by rw [HN']; exact HO'.out⟩
                    case measure => simp [intOf] <;> omega
                  · have hd := decide_eq_false hil
                    rw [hd] at HROOT ⊢
                    have HN' := Lib.hid (HYES.out (by rw [HROOT.out]; rfl))
                    clear hil hd
                    go_wp2_with (at_builtin; refine wpList_append_ints rfl _ _ 23 3 rfl Try.underlying23 Try.infoI64 w5.heap.size u17 (rootsTo loc n e lost i).length (rootsTo loc n e lost i) rfl (HO'.out.1.alloc _) rfl (by simp; omega) wk.heap.size 1 1 [(i : Int)] rfl rfl (fun j hj => (cellsI_one wk (i : Int) _).at j hj) (by have := HRT.out; omega) ?_; intro v' w7 ho7 hg7)
                    have HO7 : Hid (w7.ownsRow w5.heap.size 3 1 v' (rootsTo loc n e lost (i + 1)).length ((rootsTo loc n e lost (i + 1)).map i64v) ∧ Below w5.heap.size w5 w7) := by
                      refine ⟨?_, ownsB_grown (HO'.out.2.alloc hlowk _) (HO'.out.1.alloc _) hg7 (by simp; omega) (Nat.le_refl _)⟩
                      rw [HN'.out, List.length_append]; exact ho7
                    clear ho7 hg7
                    go_roundw
                    case rel => exact ⟨i + 1, by omega, by go_num, HO7.out⟩
                    case measure => simp [intOf] <;> omega
                · have hsb := u8z sm hs0
                  have hd0 := decide_eq_false hs0
                  rw [hd0] at HROOT
                  have HN' := HNO.out (by rw [HROOT.out]; rfl)
                  clear hs0 hd0
                  go_wp2_with fail
                  go_roundw
                  case rel => exact ⟨i + 1, by omega, by go_num, by rw [HN']; exact HO'.out⟩
                  case measure => simp [intOf] <;> omega
          · have hie : i = n := by omega
            have hni : n ≤ i := by omega
            have HO2 := HO.out
            rw [hie] at HO2
            have HSI : Hid (SlI wi w.heap.size u17 (rootsTo loc n e lost n)) := (slI_of_owns HO2.1 rfl).mono hlow5
            have HBf : Hid (Below w.heap.size w wi) := HB5.out.trans (HO2.2.mono hlow5)
            have hvf : ∃ a c, u17 = .slice a (rootsTo loc n e lost n).length c := by
              rcases HSI.out with ⟨a, c, h1, h2⟩ | ⟨g, c, h1, _⟩
              · exact ⟨a, c, by rw [h1, h2]; rfl⟩
              · exact ⟨_, c, h1⟩
            obtain ⟨a7, c7, rfl⟩ := hvf
            obtain ⟨L, hL⟩ : ∃ L, rootsTo loc n e lost n = L := ⟨_, rfl⟩
            obtain ⟨nL, hnL⟩ : ∃ x, L.length = x := ⟨_, rfl⟩
            rw [hL] at HSI ⊢
            rw [hnL] at HSI ⊢
            have HLL := Lib.hid hL
            have HNL := Lib.hid hnL
            clear HO HO2 hie hL hnL
            by_cases hne : nL = e
            · have HD : Hid (decide ((rootsTo loc n e lost n).length = e) = true) := by unfold Hid; rw [HLL.out, HNL.out]; exact decide_eq_true hne
              have hneb : ((nL : Int) == (e : Int)) = true := by rw [hne]; exact beq_self_eq_true _
              have hneb2 : (nL == e) = true := by rw [hne]; exact beq_self_eq_true _
              clear hne
              go_wp2_with fail
              go_ret2
              exact ⟨HBf.out, Or.inl ⟨_, loc, by rw [HD.out]; rfl, by rw [HLL.out]; exact HSI.out, HLOC.out, HSOL.out⟩⟩
            · have HD : Hid (decide ((rootsTo loc n e lost n).length = e) = false) := by unfold Hid; rw [HLL.out, HNL.out]; exact decide_eq_false hne
              have hneb : ((nL : Int) == (e : Int)) = false := beq_eq_false_iff_ne.2 (by omega)
              have hneb2 : (nL == e) = false := beq_eq_false_iff_ne.2 hne
              clear hne
              go_wp2_with fail
              go_ret2
              exact ⟨HBf.out, Or.inl ⟨_, loc, by rw [HD.out]; rfl, by rw [HLL.out]; exact HSI.out, HLOC.out, HSOL.out⟩⟩
      · have HNO : Hid (¬ ∃ x, Uniq m e (errM t e b) x) := fun ⟨x, hx⟩ => hno ⟨x, hx.congr fun a k ha hk => (HEM.out a k ha hk).symm⟩
        have HB5 : Hid (Below w.heap.size w w5) := HB.out.trans hb5
        clear hb5 hno HRB HRL HEM HB
        go_wp2_with fail
        go_ret2
        exact ⟨HB5.out, Or.inr ⟨rfl, HNO.out⟩⟩
end Go.Proofs.Ytamkahjdedomlaa
namespace Go.Proofs.Ytamkahjdedomlaa
open Go.RowKit
set_option linter.unusedVariables false

/-- The element of the k-th of the places. -/
def elAt (n : Nat) (ats : List Int) (k : Nat) : UInt8 := F.expB (n - 1 - (ats[k]?.getD 0).toNat)
def valPre (n : Nat) (ats : List Int) (j k : Nat) : List UInt8 := (List.range k).map fun i => F.powB (elAt n ats i) j
theorem valPre_succ (n : Nat) (ats : List Int) (j k : Nat) : valPre n ats j (k + 1) = valPre n ats j k ++ [F.powB (elAt n ats k) j] := by
  unfold valPre; rw [List.range_succ, List.map_append]; rfl
theorem valPre_len (n : Nat) (ats : List Int) (j k : Nat) : (valPre n ats j k).length = k := by unfold valPre; simp
def valRow (syn : List UInt8) (n : Nat) (ats : List Int) (q j : Nat) : List UInt8 := valPre n ats j q ++ [syn[j]?.getD 0]
/-- The system of the values. -/
def valM (syn : List UInt8) (n : Nat) (ats : List Int) (q : Nat) : Mx := fun a k => if k < q then F.powB (elAt n ats k) a else syn[a]?.getD 0
theorem valRow_get (syn : List UInt8) (n : Nat) (ats : List Int) (q j k : Nat) (hk : k ≤ q) : (valRow syn n ats q j)[k]?.getD 0 = valM syn n ats q j k := by
  unfold valRow valM valPre
  by_cases h : k < q
  · rw [if_pos h, List.getElem?_append_left (by simpa using h), List.getElem?_map, List.getElem?_range h]; rfl
  · have : k = q := by omega
    subst this
    rw [if_neg h, List.getElem?_append_right (by simp), List.length_map, List.length_range, Nat.sub_self]; rfl
/-- The word with the first k values laid on. -/
def applyTo (W : List UInt8) (ats : List Int) (y : List UInt8) : Nat → List UInt8
  | 0 => W
  | k + 1 => (applyTo W ats y k).set (ats[k]?.getD 0).toNat ((applyTo W ats y k)[(ats[k]?.getD 0).toNat]?.getD 0 ^^^ (y[k]?.getD 0))
theorem applyTo_len (W : List UInt8) (ats : List Int) (y : List UInt8) (k : Nat) : (applyTo W ats y k).length = W.length := by
  induction k with
  | zero => rfl
  | succ k ih => show (List.set _ _ _).length = _; rw [List.length_set, ih]
def RowsVal (w0 : World) (syn : List UInt8) (n : Nat) (ats : List Int) (q a : Nat) (v : Value) (wr : World) : Prop :=
  ∃ R : List RowT, RowsB wr w0.heap.size q v R ∧ R.length = a ∧ (∀ i, i < a → (rowAt R i).2.2 = valRow syn n ats q i) ∧ Below w0.heap.size w0 wr
theorem valM_rows (syn : List UInt8) (n : Nat) (ats : List Int) (q m : Nat) (R : List RowT) (h : ∀ i, i < m → (rowAt R i).2.2 = valRow syn n ats q i) : ∀ a k, a < m → k ≤ q → rowsM R a k = valM syn n ats q a k := by
  intro a k ha hk
  unfold rowsM
  rw [h a ha, valRow_get syn n ats q a k hk]
set_option maxRecDepth 100000 in
set_option maxHeartbeats 4000000 in
theorem values_any (word : ByteArray) (W : List UInt8) (n p q g cg : Nat) (syn : List UInt8) (va : Value) (ats : List Int) (w : World) (hW : word.data.toList = W) (hn : word.size = n) (hn1 : 1 ≤ n) (hn2 : n ≤ 255)
    (hc : Cells w g syn) (hp : syn.length = p) (hp2 : p ≤ 64) (hq : ats.length = q) (hqp : q ≤ p) (hl : RdI w va ats) (hin : ∀ x ∈ ats, 0 ≤ x ∧ x < (n : Int)) :
    Calls Try.prog 39 #[.string word, .slice (some ⟨g, 0, none⟩) p cg, va] w fun ex w' => Below w.heap.size w w' ∧
      ((∃ y, ex = .returned (.tuple #[.string ⟨(applyTo W ats y q).toArray⟩, .bool true]) ∧ y.length = q ∧ ∀ x, Sol p q (valM syn n ats q) x → ∀ a, a < q → x a = F.mk (y[a]?.getD 0)) ∨
       (ex = .returned (.tuple #[.string ⟨#[]⟩, .bool false]) ∧ ¬ ∃ x, Uniq p q (valM syn n ats q) x)) := by
  have HL := Lib.hid hl
  obtain ⟨al, ol, cl, rfl, hf⟩ := hl.form
  rw [hq] at hf HL ⊢
  have hinat : ∀ k, k < q → ∃ i : Nat, ats[k]?.getD 0 = i ∧ i < n := by
    intro k hk
    have := hin (ats[k]?.getD 0) (by rw [List.getElem?_eq_getElem (by omega)]; exact List.getElem_mem _)
    exact ⟨(ats[k]?.getD 0).toNat, by omega, by omega⟩
  have HF := Lib.hid hf
  have HIN := Lib.hid hinat
  have HC := Lib.hid hc
  have HP := Lib.hid hp
  have HQ := Lib.hid hq
  have HN := Lib.hid hn
  have HW := Lib.hid hW
  clear hf hinat hin hc hp hq hl hW
  go_enter Try.func39, Try.ntmps39
  go_wp2_with fail
  go_loopw [8, 9] (fun v8 v9 wr => ∃ j : Nat, j ≤ p ∧ v9 = .int .i64 j ∧ Hid (RowsVal w syn n ats q j v8 wr)) (fun _ v9 _ => p - (intOf v9).toNat)
  case atStart => exact ⟨0, Nat.zero_le _, rfl, [], RowsB.start _ _ _, rfl, fun i hi => by omega, Below.refl _ _⟩
  case round =>
    obtain ⟨j, hj, rfl, HR⟩ := hrel
    obtain ⟨wo, rfl⟩ : ∃ x : World, x = wr := ⟨_, rfl⟩
    by_cases hlt : j < p
    · obtain ⟨R, hR, hRl, hRr, hB⟩ := HR.out
      have HRB := Lib.hid hR
      have HRL := Lib.hid hRl
      have HRR := Lib.hid hRr
      have HB := Lib.hid hB
      have hlow : w.heap.size ≤ wo.heap.size := hB.size
      clear hR hRl hRr hB HR
      go_wp2_with fail
      go_loopw [10, 11] (fun v10 v11 wr => ∃ k : Nat, k ≤ q ∧ v11 = .int .i64 k ∧ Hid (wr.ownsRow wo.heap.size 5 1 v10 k ((valPre n ats j k).map u8v) ∧ Below wo.heap.size wo wr)) (fun _ v11 _ => q - (intOf v11).toNat)
      case atStart => exact ⟨0, Nat.zero_le _, rfl, World.ownsRow_nil _ _ _ _, Below.refl _ _⟩
      case round =>
        obtain ⟨k, hk, rfl, HO⟩ := hrel
        obtain ⟨wk, rfl⟩ : ∃ x : World, x = wr := ⟨_, rfl⟩
        have hsz : wo.heap.size ≤ wk.heap.size := HO.out.2.size
        have HLn := Lib.hid (valPre_len n ats j k)
        by_cases hkq : k < q
        · have HST := Lib.hid (valPre_succ n ats j k)
          obtain ⟨bA, rfl, hbA, hcA⟩ := HF.out k hkq
          have hcA2 := (HO.out.2.cell (p := ⟨bA, ol + k, none⟩) (Nat.lt_of_lt_of_le hbA hlow)).trans ((HB.out.cell (p := ⟨bA, ol + k, none⟩) hbA).trans hcA)
          obtain ⟨i, hi, hin⟩ := HIN.out k hkq
          have HEL : Hid (elAt n ats k = F.expB (n - 1 - i)) := by unfold Hid elAt; rw [hi]; rfl
          rw [hi] at hcA2
          clear hcA hi
          go_wp2_with fail
          refine (element_any i n hin hn2 _).mono ?_
          rintro ex w6 ⟨rfl, rfl⟩
          rw [HEL.out] at HST
          obtain ⟨x, hx⟩ : ∃ x, F.expB (n - 1 - i) = x := ⟨_, rfl⟩
          rw [hx] at HST ⊢
          clear hx HEL
          go_wp2_with fail
          refine (rpower_any x j (by omega) _).mono ?_
          rintro ex w6 ⟨rfl, rfl⟩
          obtain ⟨z, hz⟩ : ∃ z, F.powB x j = z := ⟨_, rfl⟩
          rw [hz] at HST ⊢
          clear hz
          go_wp2_with (at_builtin; refine wpList_append_bytes rfl _ _ 33 5 rfl Try.underlying33 Try.infoU8 wo.heap.size u10 (valPre n ats j k) rfl (by rw [HLn.out]; exact HO.out.1.alloc _) (by simp; omega) wk.heap.size 1 1 [z] rfl rfl (cells_one wk z _) (by rw [HLn.out]; simp; omega) ?_; intro v' w4 hown hgr)
          have HO' : Hid (w4.ownsRow wo.heap.size 5 1 v' (k + 1) ((valPre n ats j (k + 1)).map u8v) ∧ Below wo.heap.size wo w4) := by
            refine ⟨?_, (HO.out.2.alloc hsz _).grown hgr (by simp; omega) (fun j hj => (HO.out.1.lt j hj).1)⟩
            rw [HST.out]
            have := hown
            rw [List.length_append, HLn.out] at this
            exact this
          clear hown hgr
          go_roundw
          case rel => exact ⟨k + 1, by omega, by go_num, HO'.out⟩
          case measure => simp [intOf] <;> omega
        · have hke' : k = q := by omega
          have hqk : q ≤ k := by omega
          have hO2 := HO.out
          have hlo := valPre_len n ats j q
          rw [hke'] at hO2
          have HO2 := Lib.hid hO2
          have HLe := Lib.hid hlo
          have hcj := ((HC.out.kept HB.out).kept HO.out.2).at j (by rw [HP.out]; exact hlt)
          obtain ⟨z, hz⟩ : ∃ z, syn[j]?.getD 0 = z := ⟨_, rfl⟩
          have HRW : Hid (valRow syn n ats q j = valPre n ats j q ++ [z]) := by unfold Hid valRow; rw [hz]
          rw [hz] at hcj
          have HRo : Hid (∀ x ∈ R, x.1 < wo.heap.size) := fun x hx => (HRB.out.cells x hx).1
          have HOo : Hid (∀ k, u8 = u8 → Value.ownBlock u8 = some k → k < wo.heap.size) := fun k _ h => (ownB_lt HRB.out.own h).2
          clear hz hO2 hlo hke'
          go_wp2_with first
            | (at_builtin; refine wpList_append_bytes rfl _ _ 33 5 rfl Try.underlying33 Try.infoU8 wo.heap.size u10 (valPre n ats j q) rfl (by rw [HLe.out]; exact HO2.out.1.alloc _) (by simp; omega) wk.heap.size 1 1 [z] rfl rfl (cells_one wk z _) (by rw [HLe.out]; simp; omega) ?_; intro v' w4 hown hgr; have HO4 : Hid (w4.ownsRow wo.heap.size 5 1 v' (q + 1) ((valRow syn n ats q j).map u8v) ∧ Below wo.heap.size wo w4) := (by (refine ⟨?_, (HO2.out.2.alloc hsz _).grown hgr (by simp; omega) (fun j hj => (HO2.out.1.lt j hj).1)⟩; rw [HRW.out]; have := hown; rw [List.length_append, HLe.out] at this; exact this)); obtain ⟨bb, cc, hv', hbb, hcb⟩ := row_of_owns HO4.out.1 (by rw [HRW.out, List.length_append, HLe.out]; rfl) (by omega); subst hv'; have HCB := Lib.hid hcb; have HR4 : Hid (RowsB (w4.alloc (.cells #[hdrOf q (bb, cc, valRow syn n ats q j)] 33)) w.heap.size q u8 R) := (HRB.out.kept HO4.out.2).kept ((Below.refl w4.heap.size w4).alloc (Nat.le_refl _) _); have hlo4 : w.heap.size ≤ w4.heap.size := Nat.le_trans hlow HO4.out.2.size; clear hown hgr hcb)
            | (at_builtin; refine wpList_append_row rfl _ _ 82 33 rfl Try.underlying82 Try.infoRow w.heap.size u8 R.length (R.map (hdrOf q)) rfl HR4.out.own (by simp; omega) w4.heap.size 1 (hdrOf q (bb, cc, valRow syn n ats q j)) rfl rfl (cell_new w4 _ _) (by rw [HRL.out]; omega) ?_; intro v6 w6 ho6 hg6 hv6)
          have HR6 : Hid (RowsVal w syn n ats q (j + 1) v6 w6) := by
            refine ⟨R ++ [(bb, cc, valRow syn n ats q j)], HR4.out.push HRo.out (fun k h => HOo.out k rfl h) hbb (Nat.le_trans hlow hbb) (HCB.out.alloc _) (by rw [HRW.out, List.length_append, HLe.out]; rfl) ho6 hg6 hv6, by rw [List.length_append, HRL.out]; rfl, fun i hi => ?_, ownsB_grown ((HB.out.trans (HO4.out.2.mono hlow)).alloc hlo4 _) HR4.out.own hg6 (by simp; omega) (Nat.le_refl _)⟩
            by_cases e1 : i = j
            · rw [rowAt_new (by rw [HRL.out, e1]), e1]
            · rw [rowAt_old (by rw [HRL.out]; omega)]; exact HRR.out i (by omega)
          clear ho6 hg6 hv6
          go_roundw
          case rel => exact ⟨j + 1, by omega, by go_num, HR6.out⟩
          case measure => simp [intOf] <;> omega
    · have hjp : j = p := by omega
      obtain ⟨R, hR, hRl, hRr, hB⟩ := HR.out
      rw [hjp] at hRl hRr
      have HEM := Lib.hid (valM_rows syn n ats q p R hRr)
      have HRB := Lib.hid hR
      have HRL := Lib.hid hRl
      have HB := Lib.hid hB
      have hvf : ∃ aa cc, u8 = .slice aa p cc := by
        rcases hR.form with ⟨h1, h2⟩ | ⟨g, cap, h1, _⟩
        · exact ⟨none, 0, by rw [h1, ← hRl, h2]; rfl⟩
        · exact ⟨_, cap, by rw [h1, hRl]⟩
      obtain ⟨aa, cc, rfl⟩ := hvf
      have hlow : w.heap.size ≤ wo.heap.size := hB.size
      have hpj : p ≤ j := by omega
      have hpq : ¬ p < q := by omega
      clear hR hRl hRr hB HR hjp
      go_wp2_with fail
      refine (gauss_rows R w.heap.size p q _ wo HRB.out HRL.out (by omega) hqp hlow).mono ?_
      rintro ex w5 ⟨hb5, ⟨vl, y, rfl, hy, hsl, hsol⟩ | ⟨rfl, hno⟩⟩
      · have HB5 : Hid (Below w.heap.size w w5) := HB.out.trans hb5
        have HSOL : Hid (∀ x, Sol p q (valM syn n ats q) x → ∀ a, a < q → x a = F.mk (y[a]?.getD 0)) := fun x hx => hsol x (hx.congr fun a k ha hk => (HEM.out a k ha hk).symm)
        obtain ⟨aV, cV, rfl, hfV⟩ := slForm hsl
        rw [hy] at hfV ⊢
        have HFV := Lib.hid hfV
        have HYL := Lib.hid hy
        have hlow5 : w.heap.size ≤ w5.heap.size := HB5.out.size
        clear hb5 hy hsl hsol hfV HRB HRL HEM HB
        go_wp2_with (with_reducible refine wpList_bytes rfl _ _ _ 5 rfl Try.underlying9 Try.underlying33 Try.underlying5 word n HN.out rfl ?_; intro cap w8 hcap hC8 hb8 hz8; rw [HW.out] at hC8; have HC8 := Lib.hid hC8; have HB8 := Lib.hid hb8; clear hC8 hb8)
        obtain ⟨g8, hg8⟩ : ∃ g8, w5.heap.size = g8 := ⟨_, rfl⟩
        have HG8 := Lib.hid hg8
        rw [hg8] at HC8 hz8 ⊢
        clear hg8
        have HWL : Hid (W.length = n) := by unfold Hid; rw [← HW.out, ← HN.out]; rfl
        go_loopw [15] (fun v15 wr => ∃ k : Nat, k ≤ q ∧ v15 = .int .i64 k ∧ Hid (Cells wr g8 (applyTo W ats y k) ∧ Below w5.heap.size w5 wr)) (fun v15 _ => q - (intOf v15).toNat)
        case atStart => exact ⟨0, Nat.zero_le _, rfl, HC8.out, HB8.out⟩
        case round =>
          clear HC8 HB8 hz8
          obtain ⟨k, hk, rfl, HO⟩ := hrel
          obtain ⟨wk, rfl⟩ : ∃ x : World, x = wr := ⟨_, rfl⟩
          have HAL := Lib.hid ((applyTo_len W ats y k).trans HWL.out)
          by_cases hkq : k < q
          · obtain ⟨bA, rfl, hbA, hcA⟩ := HF.out k hkq
            have hcA2 := (HO.out.2.cell (p := ⟨bA, ol + k, none⟩) (Nat.lt_of_lt_of_le hbA hlow5)).trans ((HB5.out.cell (p := ⟨bA, ol + k, none⟩) hbA).trans hcA)
            obtain ⟨i, hi, hin⟩ := HIN.out k hkq
            rw [hi] at hcA2
            obtain ⟨bV, rfl, hbV, hcV⟩ := HFV.out k hkq
            have hcV2 := (HO.out.2.cell (p := ⟨bV, k, none⟩) hbV).trans hcV
            have hci := HO.out.1.at i (by rw [HAL.out]; exact hin)
            have hfi := HO.out.1.free i (by rw [HAL.out]; exact hin)
            have HST : Hid (applyTo W ats y (k + 1) = (applyTo W ats y k).set i ((applyTo W ats y k)[i]?.getD 0 ^^^ (y[k]?.getD 0))) := by
              unfold Hid
              show List.set _ (ats[k]?.getD 0).toNat ((applyTo W ats y k)[(ats[k]?.getD 0).toNat]?.getD 0 ^^^ _) = _
              rw [hi]; rfl
            obtain ⟨c, hc⟩ : ∃ c, (applyTo W ats y k)[i]?.getD 0 = c := ⟨_, rfl⟩
            obtain ⟨z, hz⟩ : ∃ z, y[k]?.getD 0 = z := ⟨_, rfl⟩
            rw [hc] at hci HST
            rw [hz] at hcV2 HST
            obtain ⟨u, hu⟩ : ∃ u, c ^^^ z = u := ⟨_, rfl⟩
            rw [hu] at HST
            have hxs : bits .xor .u8 (c.toNat : Int) (z.toNat : Int) = (u.toNat : Int) := by rw [u8_xor_nat _ _ c.toNat_lt z.toNat_lt, ← hu, UInt8.toNat_xor]
            clear hc hz hu hcA hcV hi
            go_wp2_with fail
            go_still_tail 18, (by kernel_rfl)
            change wpList _ _ _ _ _ wk.drew
            go_wp2
            go_roundw
            case rel => exact ⟨k + 1, by omega, by go_num, by rw [HST.out]; exact (HO.out.1.set i (by rw [HAL.out]; exact hin) u).drew, (HO.out.2.setCell (by rw [HG8.out]; exact Nat.le_refl _) _).drew⟩
            case measure => simp [intOf] <;> omega
          · have hke : k = q := by omega
            have hqk : q ≤ k := by omega
            have hst := run_str (P := Try.prog) wk 33 9 5 g8 n cap (applyTo W ats y q) Try.underlying33 Try.underlying5 Try.underlying9 (by have := HO.out.1; rw [hke] at this; exact this) ((applyTo_len W ats y q).trans HWL.out)
            have HBf : Hid (Below w.heap.size w wk) := HB5.out.trans (HO.out.2.mono hlow5)
            clear HO hke
            go_wp2_with fail
            go_ret2
            exact ⟨HBf.out, Or.inl ⟨y, rfl, HYL.out, HSOL.out⟩⟩
      · have HNO : Hid (¬ ∃ x, Uniq p q (valM syn n ats q) x) := fun ⟨x, hx⟩ => hno ⟨x, hx.congr fun a k ha hk => (HEM.out a k ha hk).symm⟩
        have HB5 : Hid (Below w.heap.size w w5) := HB.out.trans hb5
        clear hb5 hno HRB HRL HEM HB
        go_wp2_with fail
        go_ret2
        exact ⟨HB5.out, Or.inr ⟨rfl, HNO.out⟩⟩
end Go.Proofs.Ytamkahjdedomlaa
namespace Go.Proofs.Ytamkahjdedomlaa
open Go.RowKit
set_option linter.unusedVariables false
def zeroTo (l : List UInt8) : Nat → Bool
  | 0 => true
  | k + 1 => zeroTo l k && decide (l[k]?.getD 0 = 0)
theorem zeroTo_iff (l : List UInt8) (k : Nat) : zeroTo l k = true ↔ ∀ i, i < k → l[i]?.getD 0 = 0 := by
  induction k with
  | zero => exact ⟨fun _ i hi => by omega, fun _ => rfl⟩
  | succ k ih =>
    simp only [zeroTo, Bool.and_eq_true, decide_eq_true_eq]
    rw [ih]
    constructor
    · rintro ⟨h1, h2⟩ i hi
      by_cases e : i = k
      · rw [e]; exact h2
      · exact h1 i (by omega)
    · exact fun h => ⟨fun i hi => h i (by omega), h k (by omega)⟩
set_option maxHeartbeats 2000000 in
theorem riscw_any (X : ByteArray) (l : List UInt8) (p : Nat) (hX : X.data.toList = l) (h1 : 1 ≤ p) (h2 : p ≤ 64) (h3 : p ≤ X.size) (h4 : X.size ≤ 255) (w : World) : Calls Try.prog 40 #[.string X, .int .i64 p] w fun e w' => e = .returned (.bool (zeroTo (synB l p) p)) ∧ Below w.heap.size w w' := by
  have hsyn := fun w => rsyn_ok X p h1 h2 h3 h4 w
  rw [hX] at hsyn
  have hlen := synB_len l p
  obtain ⟨L, hL⟩ : ∃ L, synB l p = L := ⟨_, rfl⟩
  rw [hL] at hsyn hlen ⊢
  have HSY := Lib.hid hsyn
  have HLN := Lib.hid hlen
  clear hsyn hX hlen hL
  go_enter Try.func40, Try.ntmps40
  go_wp2_with fail
  refine (HSY.out _).mono ?_
  rintro e w2 ⟨v, rfl, hsl, hb2⟩
  obtain ⟨aV, cV, rfl, hf⟩ := slForm hsl
  rw [HLN.out] at hf ⊢
  have HF := Lib.hid hf
  have HB := Lib.hid hb2
  clear hf hb2 hsl
  go_wp2_with fail
  go_loopw [7, 8] (fun v7 v8 wr => ∃ k : Nat, k ≤ p ∧ v8 = .int .i64 k ∧ v7 = .bool (zeroTo L k) ∧ w2 = wr) (fun _ v8 _ => p - (intOf v8).toNat)
  case atStart => exact ⟨0, Nat.zero_le _, rfl, rfl, rfl⟩
  case round =>
    obtain ⟨k, hk, rfl, rfl, rfl⟩ := hrel
    by_cases hlt : k < p
    · have HST : Hid (zeroTo L (k + 1) = (zeroTo L k && decide (L[k]?.getD 0 = 0))) := rfl
      obtain ⟨b, rfl, hb, hc⟩ := HF.out k hlt
      obtain ⟨z, hz⟩ : ∃ z, L[k]?.getD 0 = z := ⟨_, rfl⟩
      rw [hz] at hc HST
      obtain ⟨ok, hok⟩ : ∃ ok, zeroTo L k = ok := ⟨_, rfl⟩
      rw [hok] at HST ⊢
      clear hz hok
      cases ok with
      | false =>
        go_wp2_with fail
        go_roundw
        case rel => exact ⟨k + 1, by omega, by go_num, by rw [HST.out]; rfl, trivial⟩
        case measure => simp [intOf] <;> omega
      | true =>
        by_cases hz0 : z = 0
        · have hd := decide_eq_true hz0
          rw [hd] at HST
          subst hz0
          have hc0 : w2.cell? ⟨b, k, none⟩ = some (.int .u8 0) := hc
          clear hc hd
          go_wp2_with fail
          go_roundw
          case rel => exact ⟨k + 1, by omega, by go_num, by rw [HST.out]; rfl, trivial⟩
          case measure => simp [intOf] <;> omega
        · have hd := decide_eq_false hz0
          have hzb := u8z z hz0
          rw [hd] at HST
          clear hd
          go_wp2_with fail
          go_roundw
          case rel => exact ⟨k + 1, by omega, by go_num, by rw [HST.out]; rfl, trivial⟩
          case measure => simp [intOf] <;> omega
    · have hke : k = p := by omega
      have hpk : p ≤ k := by omega
      have HE : Hid (zeroTo L k = zeroTo L p) := by unfold Hid; rw [hke]
      clear hke
      go_wp2_with fail
      go_ret
      exact ⟨by rw [← HE.out]; rfl, HB.out⟩
end Go.Proofs.Ytamkahjdedomlaa
