/-
  The walk of the law ScrubDue.
-/
import Derived.Test.YtafididfgljfcaaAwk
import Derived.Test.YtafididfgljfcaaOpS
namespace Go.Proofs.Ytafididfgljfcaa
open Go.RowKit
set_option linter.unusedVariables false
theorem dueL_pre (l : List He) (x : Int) (k : Nat) (h : He) (hh : l[k]? = some h) (hd : isDue h x = true) : (dueL (l.take k) x).length < (dueL l x).length ∧ (dueL l x)[(dueL (l.take k) x).length]? = some h.reel := by
  have e1 := dueL_snoc l x k h hh
  rw [hd] at e1
  simp only [if_true] at e1
  have e2 : dueL l x = dueL (l.take (k + 1)) x ++ dueL (l.drop (k + 1)) x := by
    unfold dueL
    rw [← List.map_append, ← List.filter_append, List.take_append_drop]
  rw [e2, e1]
  constructor
  · simp
  · rw [List.append_assoc, List.getElem?_append_right (Nat.le_refl _), Nat.sub_self]; rfl
theorem dueL_mono (l : List He) (x y : Int) (h : x ≤ y) : (dueL l x).length ≤ (dueL l y).length := by
  induction l with
  | nil => exact Nat.le_refl _
  | cons a l ih =>
    unfold dueL at ih ⊢
    simp only [List.length_map] at ih ⊢
    simp only [List.filter_cons]
    cases h1 : isDue a x with
    | true =>
      have h2 : isDue a y = true := by
        unfold isDue at h1 ⊢
        simp only [Bool.or_eq_true, decide_eq_true_eq] at h1 ⊢
        omega
      rw [h2]; simp only [if_true, List.length_cons]; omega
    | false =>
      simp only [Bool.false_eq_true, if_false]
      split
      · rw [List.length_cons]; omega
      · exact ih
theorem isDue_cases (h : He) (x : Int) : (0 < h.missing ∧ isDue h x = true) ∨ (¬ 0 < h.missing ∧ 4 - h.worst < x ∧ isDue h x = true) ∨ (¬ 0 < h.missing ∧ ¬ 4 - h.worst < x ∧ isDue h x = false) := by
  unfold isDue
  by_cases h1 : 0 < h.missing
  · exact Or.inl ⟨h1, by simp [h1]⟩
  · by_cases h2 : 4 - h.worst < x
    · exact Or.inr (Or.inl ⟨h1, h2, by simp [h1, h2]⟩)
    · exact Or.inr (Or.inr ⟨h1, h2, by simp [h1, h2]⟩)
set_option maxRecDepth 100000 in
set_option maxHeartbeats 4000000 in
theorem scrubDue.walk (w : World) (v : Value) (l : List He) (hl : IsS 5 He.cs w v l) (hwf : ∀ h ∈ l, h.Wf) (hn : l.length ≤ 10000000000000) (x : Int) (wx : (Lit.int .i64 x).wf = true) (y : Int) (wy : (Lit.int .i64 y).wf = true) :
    Calls Try.prog 4 #[v, .int .i64 x, .int .i64 y] w fun e w' => e = .returned (.bool true) ∧ Below w.heap.size w w' := by
  have HL := Lib.hid hl
  obtain ⟨n, hnn⟩ : ∃ n, l.length = n := ⟨_, rfl⟩
  obtain ⟨aA, oA, cA, rfl, hmx, hA⟩ := hl
  rw [hnn] at hn hmx ⊢
  rw [hnn] at HL
  have HN := Lib.hid hnn
  have HA : Hid (RowsAt 5 He.cs w aA oA l) := hA
  clear hA hnn hmx wx wy hwf
  go_enter Try.func4, Try.ntmps4
  go_wp2
  go_loopw [15] (fun i wr => ∃ k : Nat, k ≤ n ∧ i = .int .i64 k ∧ w = wr ∧ Hid (∀ j h, j < k → l[j]? = some h → 0 ≤ h.worst ∧ h.worst ≤ 52)) (fun i _ => n - (intOf i).toNat)
  case atStart => exact ⟨0, Nat.zero_le _, rfl, rfl, fun j h hj => by omega⟩
  case round =>
    obtain ⟨k, hk, rfl, rfl, HO⟩ := hrel
    by_cases hlt : k < n
    · obtain ⟨s, hs⟩ : ∃ s, l[k]? = some s := ⟨_, List.getElem?_eq_getElem (by rw [HN.out]; exact hlt)⟩
      obtain ⟨bA, rfl, hbA, hrA⟩ := HA.out k s hs
      have hc3 : w.cell? ⟨bA, oA + k * 5 + 3, none⟩ = some (.int .i64 s.worst) := hrA 3 _ rfl
      have HS := Lib.hid hs
      clear hrA hs
      by_cases g0 : s.worst < 0
      · go_wp2_with fail
        refine (awake_any _).mono ?_
        rintro e w2 ⟨rfl, hb2⟩
        have HB2 := Lib.hid hb2
        clear hb2
        go_wp2_with fail
        go_ret
        exact ⟨rfl, HB2.out⟩
      · by_cases g1 : 52 < s.worst
        · go_wp2_with fail
          refine (awake_any _).mono ?_
          rintro e w2 ⟨rfl, hb2⟩
          have HB2 := Lib.hid hb2
          clear hb2
          go_wp2_with fail
          go_ret
          exact ⟨rfl, HB2.out⟩
        · go_wp2_with fail
          go_roundw
          case rel =>
            refine ⟨k + 1, by omega, by go_num, trivial, fun j h hj hh => ?_⟩
            by_cases e : j = k
            · subst e
              rw [HS.out] at hh; cases hh
              exact ⟨by omega, by omega⟩
            · exact HO.out j h (by omega) hh
          case measure => simp [intOf] <;> omega
    · have HOK : Hid (∀ h ∈ l, 0 ≤ h.worst ∧ h.worst ≤ 52) := by
        intro h hh
        obtain ⟨j, hj⟩ := List.mem_iff_getElem?.1 hh
        have := (List.getElem?_eq_some_iff.1 hj).1
        rw [HN.out] at this
        exact HO.out j h (by omega) hj
      have hnk : n ≤ k := by omega
      clear HO
      go_wp2_with fail
      refine (due_any l n x _ w HN.out hn HL.out HOK.out).mono ?_
      rintro e w2 ⟨v2, rfl, hs2, hb2⟩
      have HB2 := Lib.hid hb2
      have HS2 := Lib.hid hs2
      clear hs2 hb2
      go_wp2_with fail
      refine (due_any l n y _ w2 HN.out hn (HL.out.kept HB2.out) HOK.out).mono ?_
      rintro e w3 ⟨v3, rfl, hs3, hb3⟩
      have HB3 := Lib.hid (bt HB2.out hb3)
      have hs2' := HS2.out.kept hb3
      obtain ⟨a2, c2, rfl, hf2⟩ := hs2'.form2
      obtain ⟨a3, c3, rfl, _⟩ := hs3.form2
      obtain ⟨nx, hnx⟩ : ∃ m, (dueL l x).length = m := ⟨_, rfl⟩
      obtain ⟨ny, hny⟩ : ∃ m, (dueL l y).length = m := ⟨_, rfl⟩
      have hm : ¬ y < x → nx ≤ ny := by intro h; rw [← hnx, ← hny]; exact dueL_mono l x y (by omega)
      have hxn : nx ≤ n := by rw [← hnx, ← HN.out]; exact dueL_len l x
      have hyn : ny ≤ n := by rw [← hny, ← HN.out]; exact dueL_len l y
      rw [hnx] at hf2 ⊢
      rw [hny]
      have HF2 := Lib.hid hf2
      have HX := Lib.hid hnx
      have HY := Lib.hid hny
      clear hf2 hs2' hs3 hb3 HS2 HB2 hnx hny
      go_wp2_with fail
      go_loopw [10, 11, 42] (fun k10 j11 i wr => ∃ k a b : Nat, k ≤ n ∧ a ≤ k ∧ b ≤ k ∧ 0 ≤ a ∧ i = .int .i64 k ∧ k10 = .int .i64 a ∧ j11 = .int .i64 b ∧ Hid ((dueL (l.take k) x).length = a ∧ (dueL (l.take k) y).length = b) ∧ ∃ q, Hid (wr = w3.drewN q)) (fun _ _ i _ => n - (intOf i).toNat)
      case atStart => exact ⟨0, 0, 0, Nat.zero_le _, Nat.zero_le _, Nat.zero_le _, Nat.zero_le _, rfl, rfl, rfl, ⟨rfl, rfl⟩, 0, rfl⟩
      case round =>
        obtain ⟨k2, a, b, hk2, hak, hbk, _, rfl, rfl, rfl, HAB, q, HQ⟩ := hrel
        by_cases hlt2 : k2 < n
        · obtain ⟨s, hs⟩ : ∃ s, l[k2]? = some s := ⟨_, List.getElem?_eq_getElem (by rw [HN.out]; exact hlt2)⟩
          obtain ⟨g0, g1⟩ := HOK.out s (List.mem_of_getElem? hs)
          obtain ⟨bA, rfl, hbA, hrA⟩ := HA.out k2 s hs
          have hrA' : wr.rangeAt bA (oA + k2 * 5) s.cs := by rw [HQ.out]; exact rangeAt_kept hrA (bdN HB3.out q) hbA
          have hc0 : wr.cell? ⟨bA, oA + k2 * 5, none⟩ = some (.int .i64 s.reel) := hrA' 0 _ rfl
          have hc2 : wr.cell? ⟨bA, oA + k2 * 5 + 2, none⟩ = some (.int .i64 s.missing) := hrA' 2 _ rfl
          have hc3 : wr.cell? ⟨bA, oA + k2 * 5 + 3, none⟩ = some (.int .i64 s.worst) := hrA' 3 _ rfl
          have HSx := Lib.hid (dueL_snoc l x k2 s hs)
          have HSy := Lib.hid (dueL_snoc l y k2 s hs)
          have HPre : Hid (isDue s x = true → (a < nx ∧ (dueL l x)[a]? = some s.reel)) := by
            intro hd
            have := dueL_pre l x k2 s hs hd
            rw [HAB.out.1, HX.out] at this
            exact this
          clear hrA hrA' hs
          have HYc := Lib.hid (isDue_cases s y)
          rcases isDue_cases s x with ⟨h1, hd⟩ | ⟨h1, h2, hd⟩ | ⟨h1, h2, hd⟩
          · obtain ⟨hanx, hel⟩ := HPre.out hd
            obtain ⟨gg, rfl, hgg, hcg⟩ := HF2.out a hanx
            rw [hel] at hcg
            have hcg' : wr.cell? ⟨gg, a, none⟩ = some (.int .i64 s.reel) := by rw [HQ.out]; exact hcg
            have HX' : Hid ((dueL (l.take (k2 + 1)) x).length = a + 1) := by unfold Hid; rw [HSx.out, hd]; simp only [if_true, List.length_append, HAB.out.1]; rfl
            clear hd hel hcg HSx HPre
            rcases HYc.out with ⟨h3, hd⟩ | ⟨h3, h4, hd⟩ | ⟨h3, h4, hd⟩
            · have HY' : Hid ((dueL (l.take (k2 + 1)) y).length = b + 1) := by unfold Hid; rw [HSy.out, hd]; simp only [if_true, List.length_append, HAB.out.2]; rfl
              clear hd HSy HYc
              go_wp2_with fail
              go_quiet (fail)
              go_wp2_with fail
              go_roundw
              case rel => exact ⟨k2 + 1, a + 1, b + 1, by omega, by omega, by omega, by omega, by go_num, by go_num, by go_num, ⟨HX'.out, HY'.out⟩, q + nq, by unfold Hid; rw [HQ.out, World.drewN_drewN]⟩
              case measure => simp [intOf] <;> omega
            · exact absurd h1 h3
            · exact absurd h1 h3
          · obtain ⟨hanx, hel⟩ := HPre.out hd
            obtain ⟨gg, rfl, hgg, hcg⟩ := HF2.out a hanx
            rw [hel] at hcg
            have hcg' : wr.cell? ⟨gg, a, none⟩ = some (.int .i64 s.reel) := by rw [HQ.out]; exact hcg
            have HX' : Hid ((dueL (l.take (k2 + 1)) x).length = a + 1) := by unfold Hid; rw [HSx.out, hd]; simp only [if_true, List.length_append, HAB.out.1]; rfl
            clear hd hel hcg HSx HPre
            rcases HYc.out with ⟨h3, hd⟩ | ⟨h3, h4, hd⟩ | ⟨h3, h4, hd⟩
            · exact absurd h3 h1
            · have HY' : Hid ((dueL (l.take (k2 + 1)) y).length = b + 1) := by unfold Hid; rw [HSy.out, hd]; simp only [if_true, List.length_append, HAB.out.2]; rfl
              clear hd HSy HYc
              go_wp2_with fail
              go_quiet (fail)
              go_wp2_with fail
              go_roundw
              case rel => exact ⟨k2 + 1, a + 1, b + 1, by omega, by omega, by omega, by omega, by go_num, by go_num, by go_num, ⟨HX'.out, HY'.out⟩, q + nq, by unfold Hid; rw [HQ.out, World.drewN_drewN]⟩
              case measure => simp [intOf] <;> omega
            · have HY' : Hid ((dueL (l.take (k2 + 1)) y).length = b) := by unfold Hid; rw [HSy.out, hd]; exact HAB.out.2
              clear hd HSy HYc
              go_wp2_with fail
              go_quiet (fail)
              go_wp2_with fail
              go_roundw
              case rel => exact ⟨k2 + 1, a + 1, b, by omega, by omega, by omega, by omega, by go_num, by go_num, rfl, ⟨HX'.out, HY'.out⟩, q + nq, by unfold Hid; rw [HQ.out, World.drewN_drewN]⟩
              case measure => simp [intOf] <;> omega
          · have HX' : Hid ((dueL (l.take (k2 + 1)) x).length = a) := by unfold Hid; rw [HSx.out, hd]; exact HAB.out.1
            clear hd HSx HPre
            rcases HYc.out with ⟨h3, hd⟩ | ⟨h3, h4, hd⟩ | ⟨h3, h4, hd⟩
            · exact absurd h3 h1
            · have HY' : Hid ((dueL (l.take (k2 + 1)) y).length = b + 1) := by unfold Hid; rw [HSy.out, hd]; simp only [if_true, List.length_append, HAB.out.2]; rfl
              clear hd HSy HYc
              go_wp2_with fail
              go_roundw
              case rel => exact ⟨k2 + 1, a, b + 1, by omega, by omega, by omega, by omega, by go_num, rfl, by go_num, ⟨HX'.out, HY'.out⟩, q, HQ.out⟩
              case measure => simp [intOf] <;> omega
            · have HY' : Hid ((dueL (l.take (k2 + 1)) y).length = b) := by unfold Hid; rw [HSy.out, hd]; exact HAB.out.2
              clear hd HSy HYc
              go_wp2_with fail
              go_roundw
              case rel => exact ⟨k2 + 1, a, b, by omega, by omega, by omega, by omega, by go_num, rfl, rfl, ⟨HX'.out, HY'.out⟩, q, HQ.out⟩
              case measure => simp [intOf] <;> omega
        · have hnk2 : n ≤ k2 := by omega
          have hab := HAB.out
          rw [List.take_of_length_le (by rw [HN.out]; exact hnk2), HX.out, HY.out] at hab
          obtain ⟨rfl, rfl⟩ := hab
          have HB : Hid (Below w.heap.size w wr) := by unfold Hid; rw [HQ.out]; exact bdN HB3.out q
          by_cases hyx : y < x
          · go_wp2_with fail
            refine (awake_any _).mono ?_
            rintro e w4 ⟨rfl, hb4⟩
            have HB4 := Lib.hid (bt HB.out hb4)
            clear hb4
            go_wp2_with fail
            go_ret
            exact ⟨rfl, HB4.out⟩
          · have hm2 := hm (by omega)
            go_wp2_with fail
            refine (awake_any _).mono ?_
            rintro e w4 ⟨rfl, hb4⟩
            have HB4 := Lib.hid (bt HB.out hb4)
            clear hb4
            go_wp2_with fail
            go_ret
            exact ⟨rfl, HB4.out⟩
end Go.Proofs.Ytafididfgljfcaa
