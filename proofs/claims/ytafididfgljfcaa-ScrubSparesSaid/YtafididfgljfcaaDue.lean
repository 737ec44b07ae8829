/-
  Due and Margin, walked.
-/
import Derived.Test.YtafididfgljfcaaAssP
namespace Go.Proofs.Ytafididfgljfcaa
open Go.RowKit
set_option linter.unusedVariables false

def isDue (h : He) (x : Int) : Bool := decide (0 < h.missing) || decide (4 - h.worst < x)
def dueL (l : List He) (x : Int) : List Int := (l.filter fun h => isDue h x).map (·.reel)
theorem dueL_snoc (l : List He) (x : Int) (k : Nat) (h : He) (hh : l[k]? = some h) : dueL (l.take (k + 1)) x = if isDue h x then dueL (l.take k) x ++ [h.reel] else dueL (l.take k) x := by
  have : l.take (k + 1) = l.take k ++ [h] := by rw [List.take_add_one, hh]; rfl
  rw [this]
  unfold dueL
  rw [List.filter_append, List.map_append]
  cases hd : isDue h x with
  | true => rw [List.filter_cons_of_pos (by simpa using hd)]; simp
  | false => rw [List.filter_cons_of_neg (by simp [hd])]; simp
theorem dueL_len (l : List He) (x : Int) : (dueL l x).length ≤ l.length := by
  unfold dueL; rw [List.length_map]; exact List.length_filter_le _ _
/-- 'append(x, y)' of one number, long rows too. -/
theorem wpList_append_int {P : Program} {w : World} {ops : Array Oper} {rest : List Oper} {o : Oper} {a : Act} {Q : Exit → Act → World → Prop} (hgd : o.guard = none) (s x : Operand) (t e : TypeId)
    (ho : o.op = .call { callee := .builtin .append, args := #[s, x], argTypes := #[t, t] }) (ht : P.underlying t = some (.slice e)) (h2 : (P.info? e).map (fun i => (i.zero, i.size, i.bytes)) = some (some (.int .i64 0), 1, 8))
    (base : Nat) (v : Value) (n : Nat) (L : List Int) (hs : a.eval s = v) (hown : w.ownsRow base e 1 v n (L.map i64v)) (hn : L.length = n) (hbase : base ≤ w.heap.size)
    (g cap : Nat) (y : Int) (hx : a.eval x = .slice (some ⟨g, 0, none⟩) 1 cap) (hy : w.cell? ⟨g, 0, none⟩ = some (.int .i64 y)) (hb : n ≤ 10000000000000)
    (h : ∀ v' w', w'.ownsRow base e 1 v' (n + 1) ((L ++ [y]).map i64v) → w.grownBy w' v.ownBlock → wpList P ops Q rest (a.put o.dst v') w') : wpList P ops Q (o :: rest) a w := by
  obtain ⟨i, hi, hz0, hz1, hz2⟩ := info_parts h2
  refine wpList_append_own w hgd s x t ho base e i (.int .i64 0) 1 8 ht hi hz0 hz1 hz2 rfl (by decide) v n (L.map i64v) hs hown ⟨g, 0, none⟩ 1 cap [i64v y] hx rfl ?_ ?_ (by unfold maxLen; omega) (by omega) hbase ?_
  · intro j u hj
    cases j with
    | zero => simp at hj; subst hj; exact hy
    | succ j => simp at hj
  · intro u hu; simp at hu; subst hu; rfl
  · intro v' w' h1 h2 _
    refine h v' w' ?_ h2
    rw [List.map_append]; exact h1
set_option maxRecDepth 100000 in
set_option maxHeartbeats 4000000 in
theorem due_any (l : List He) (n : Nat) (x : Int) (v : Value) (w : World) (hn : l.length = n) (hn2 : n ≤ 10000000000000) (hl : IsS 5 He.cs w v l) (hok : ∀ h ∈ l, 0 ≤ h.worst ∧ h.worst ≤ 52) :
    Calls Try.prog 15 #[v, .int .i64 x] w fun e w' => ∃ v', e = .returned v' ∧ SlI w' w.heap.size v' (dueL l x) ∧ Below w.heap.size w w' := by
  obtain ⟨aA, oA, cA, rfl, hmx, hA⟩ := hl
  unfold maxLen at hmx
  rw [hn] at hmx ⊢
  have HA : Hid (RowsAt 5 He.cs w aA oA l) := hA
  have HN := Lib.hid hn
  have HOK := Lib.hid hok
  clear hA hn hok
  go_enter Try.func15, Try.ntmps15
  go_wp2
  go_loopw [5, 10] (fun v5 i wr => ∃ k m : Nat, k ≤ n ∧ m ≤ k ∧ i = .int .i64 k ∧ Hid ((dueL (l.take k) x).length = m ∧ wr.ownsRow w.heap.size 3 1 v5 m ((dueL (l.take k) x).map i64v) ∧ Below w.heap.size w wr)) (fun _ i _ => n - (intOf i).toNat)
  case atStart => exact ⟨0, 0, Nat.zero_le _, Nat.zero_le _, rfl, rfl, World.ownsRow_nil _ _ _ _, Below.refl _ _⟩
  case round =>
    obtain ⟨k, m, hk, hmk, rfl, HR⟩ := hrel
    obtain ⟨wo, rfl⟩ : ∃ wo : World, wo = wr := ⟨_, rfl⟩
    by_cases hlt : k < n
    · obtain ⟨s, hs⟩ : ∃ s, l[k]? = some s := ⟨_, List.getElem?_eq_getElem (by rw [HN.out]; exact hlt)⟩
      obtain ⟨g1, g2⟩ := HOK.out s (List.mem_of_getElem? hs)
      obtain ⟨bA, rfl, hbA, hrA⟩ := HA.out k s hs
      have HRA := Lib.hid (rangeAt_kept hrA HR.out.2.2 hbA)
      have HS := Lib.hid (dueL_snoc l x k s hs)
      have hlow : w.heap.size ≤ wo.heap.size := HR.out.2.2.size
      obtain ⟨r0, f0, mi0, wr0, co0⟩ := s
      simp only at g1 g2
      have hc2 : (wo.alloc (.cells (He.cs ⟨r0, f0, mi0, wr0, co0⟩).toArray 31)).cell? ⟨wo.heap.size, 2, none⟩ = some (.int .i64 mi0) := box_cell wo _ _ 2 _ rfl
      have hc2' : (He.cs ⟨r0, f0, mi0, wr0, co0⟩)[2]? = some (.int .i64 mi0) := rfl
      have hc3 : (wo.alloc (.cells (He.cs ⟨r0, f0, mi0, wr0, co0⟩).toArray 31)).cell? ⟨wo.heap.size, 3, none⟩ = some (.int .i64 wr0) := box_cell wo _ _ 3 _ rfl
      have hc3' : (He.cs ⟨r0, f0, mi0, wr0, co0⟩)[3]? = some (.int .i64 wr0) := rfl
      have hc0 : (wo.alloc (.cells (He.cs ⟨r0, f0, mi0, wr0, co0⟩).toArray 31)).cell? ⟨wo.heap.size, 0, none⟩ = some (.int .i64 r0) := box_cell wo _ _ 0 _ rfl
      have hc0' : (He.cs ⟨r0, f0, mi0, wr0, co0⟩)[0]? = some (.int .i64 r0) := rfl
      have HC1 : Hid (((wo.alloc (.cells (He.cs ⟨r0, f0, mi0, wr0, co0⟩).toArray 31)).alloc (.cells #[.int .i64 r0] 3)).cell? ⟨wo.heap.size + 1, 0, none⟩ = some (.int .i64 r0)) := by
        have := box_cell (wo.alloc (.cells (He.cs ⟨r0, f0, mi0, wr0, co0⟩).toArray 31)) [.int .i64 r0] 3 0 _ rfl
        have e2 : (wo.alloc (.cells (He.cs ⟨r0, f0, mi0, wr0, co0⟩).toArray 31)).heap.size = wo.heap.size + 1 := by simp
        rw [e2] at this; exact this
      have HLo : Hid (w.heap.size ≤ ((wo.alloc (.cells (He.cs ⟨r0, f0, mi0, wr0, co0⟩).toArray 31)).alloc (.cells #[.int .i64 r0] 3)).heap.size) := by unfold Hid; simp; omega
      have HKb : Hid (m ≤ 10000000000000) := by unfold Hid; omega
      clear hrA hs
      have e1 : (0 < mi0 ∧ isDue ⟨r0, f0, mi0, wr0, co0⟩ x = true) ∨ (¬ 0 < mi0 ∧ 4 - wr0 < x ∧ isDue ⟨r0, f0, mi0, wr0, co0⟩ x = true) ∨ (¬ 0 < mi0 ∧ ¬ 4 - wr0 < x ∧ isDue ⟨r0, f0, mi0, wr0, co0⟩ x = false) := by
        unfold isDue
        by_cases h1 : 0 < mi0
        · exact Or.inl ⟨h1, by simp [h1]⟩
        · by_cases h2 : 4 - wr0 < x
          · exact Or.inr (Or.inl ⟨h1, h2, by simp [h1, h2]⟩)
          · exact Or.inr (Or.inr ⟨h1, h2, by simp [h1, h2]⟩)
      rcases e1 with ⟨h1, hd⟩ | ⟨h1, h2, hd⟩ | ⟨h1, h2, hd⟩
      · have HS' : Hid (dueL (l.take (k + 1)) x = dueL (l.take k) x ++ [r0]) := by unfold Hid; rw [HS.out, hd]; rfl
        clear HS hd
        go_wp2_with first
          | refine wpList_load_mid rfl 31 _ rfl bA _ rfl _ _ HRA.out Try.underlying31 rfl Try.size31 ?_
          | refine wpList_store_b rfl 31 _ _ rfl wo _ (He.cs ⟨r0, f0, mi0, wr0, co0⟩) wo.heap.size rfl rfl rfl rfl Try.size31 rfl (He.ones _) ?_
          | (at_builtin; refine wpList_append_int rfl _ _ 32 3 rfl Try.underlying32 Try.infoI64 w.heap.size _ m (dueL (l.take k) x) rfl ((HR.out.2.1.alloc _).alloc _) HR.out.1 HLo.out (wo.heap.size + 1) 1 r0 rfl HC1.out HKb.out ?_; intro v4 w4 ho4 hg4)
        go_roundw
        case rel =>
          refine ⟨k + 1, m + 1, by omega, by omega, by go_num, ?_, ?_, belowS_grown ((HR.out.2.2.alloc hlow _).alloc (by simp; omega) _) ((HR.out.2.1.alloc _).alloc _) hg4 HLo.out (Nat.le_refl _)⟩
          · rw [HS'.out, List.length_append, HR.out.1]; rfl
          · rw [HS'.out]; exact ho4
        case measure => simp [intOf] <;> omega
      · have HS' : Hid (dueL (l.take (k + 1)) x = dueL (l.take k) x ++ [r0]) := by unfold Hid; rw [HS.out, hd]; rfl
        clear HS hd
        go_wp2_with first
          | refine wpList_load_mid rfl 31 _ rfl bA _ rfl _ _ HRA.out Try.underlying31 rfl Try.size31 ?_
          | refine wpList_store_b rfl 31 _ _ rfl wo _ (He.cs ⟨r0, f0, mi0, wr0, co0⟩) wo.heap.size rfl rfl rfl rfl Try.size31 rfl (He.ones _) ?_
          | (at_builtin; refine wpList_append_int rfl _ _ 32 3 rfl Try.underlying32 Try.infoI64 w.heap.size _ m (dueL (l.take k) x) rfl ((HR.out.2.1.alloc _).alloc _) HR.out.1 HLo.out (wo.heap.size + 1) 1 r0 rfl HC1.out HKb.out ?_; intro v4 w4 ho4 hg4)
        go_roundw
        case rel =>
          refine ⟨k + 1, m + 1, by omega, by omega, by go_num, ?_, ?_, belowS_grown ((HR.out.2.2.alloc hlow _).alloc (by simp; omega) _) ((HR.out.2.1.alloc _).alloc _) hg4 HLo.out (Nat.le_refl _)⟩
          · rw [HS'.out, List.length_append, HR.out.1]; rfl
          · rw [HS'.out]; exact ho4
        case measure => simp [intOf] <;> omega
      · have HS' : Hid (dueL (l.take (k + 1)) x = dueL (l.take k) x) := by unfold Hid; rw [HS.out, hd]; rfl
        clear HS hd
        go_wp2_with first
          | refine wpList_load_mid rfl 31 _ rfl bA _ rfl _ _ HRA.out Try.underlying31 rfl Try.size31 ?_
          | refine wpList_store_b rfl 31 _ _ rfl wo _ (He.cs ⟨r0, f0, mi0, wr0, co0⟩) wo.heap.size rfl rfl rfl rfl Try.size31 rfl (He.ones _) ?_
        go_roundw
        case rel => exact ⟨k + 1, m, by omega, by omega, by go_num, by rw [HS'.out]; exact HR.out.1, by rw [HS'.out]; exact HR.out.2.1.alloc _, HR.out.2.2.alloc hlow _⟩
        case measure => simp [intOf] <;> omega
    · have hnk : n ≤ k := by omega
      have HF : Hid (SlI wo w.heap.size u5 (dueL l x) ∧ Below w.heap.size w wo) := by
        unfold Hid
        have h1 := HR.out
        rw [List.take_of_length_le (by rw [HN.out]; exact hnk)] at h1
        exact ⟨slI_of_owns h1.2.1 h1.1, h1.2.2⟩
      go_wp2
      go_ret
      exact ⟨_, rfl, HF.out⟩
end Go.Proofs.Ytafididfgljfcaa
