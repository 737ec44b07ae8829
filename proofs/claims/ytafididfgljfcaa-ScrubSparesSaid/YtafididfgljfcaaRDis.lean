/-
  The reference's Distinct, walked.
-/
import Derived.Test.YtafididfgljfcaaQEq
import Derived.Test.YtafididfgljfcaaScResW
namespace Go.Proofs.Ytafididfgljfcaa
open Go.RowKit
set_option linter.unusedVariables false
theorem mem_take_succ {α : Type} [DecidableEq α] (l : List α) (k : Nat) (x s : α) (h : l[k]? = some x) : s ∈ l.take (k + 1) ↔ s ∈ l.take k ∨ x = s := by
  rw [List.take_add_one, h]
  simp [eq_comm]
set_option maxRecDepth 100000 in
set_option maxHeartbeats 400000 in
theorem rdistinct_any (l : List Fr) (n : Nat) (v : Value) (w : World) (hn : l.length = n) (hn2 : n ≤ 100) (hl : IsS 9 Fr.cs w v l) :
    Calls Try.prog 24 #[v] w fun e w' => ∃ v', e = .returned v' ∧ IsS 9 Fr.cs w' v' (distL l) ∧ Below w.heap.size w w' := by
  obtain ⟨aA, oA, cA, rfl, _, hA⟩ := hl
  rw [hn]
  have HA : Hid (RowsAt 9 Fr.cs w aA oA l) := hA
  have HN := Lib.hid hn
  clear hA hn
  go_enter Try.func24, Try.ntmps24
  go_wp2
  go_loopw [3, 4] (fun v3 i wr => ∃ k m : Nat, k ≤ n ∧ m ≤ k ∧ i = .int .i64 k ∧ Hid ((distL (l.take k)).length = m ∧ wr.ownsRow w.heap.size 39 9 v3 m ((distL (l.take k)).flatMap Fr.cs) ∧ Below w.heap.size w wr)) (fun _ i _ => n - (intOf i).toNat)
  case atStart => exact ⟨0, 0, Nat.zero_le _, Nat.zero_le _, rfl, rfl, owns_empty _ _ _, (Below.refl _ _).alloc (Nat.le_refl _) _⟩
  case round =>
    obtain ⟨k, m, hk, hmk, rfl, HR⟩ := hrel
    obtain ⟨wo, rfl⟩ : ∃ wo : World, wo = wr := ⟨_, rfl⟩
    by_cases hlt : k < n
    · obtain ⟨s, hs⟩ : ∃ s, l[k]? = some s := ⟨_, List.getElem?_eq_getElem (by rw [HN.out]; exact hlt)⟩
      obtain ⟨bA, rfl, hbA, hrA⟩ := HA.out k s hs
      have HRA := Lib.hid (rangeAt_kept hrA HR.out.2.2 hbA)
      have HS := Lib.hid (distL_snoc l k s hs)
      obtain ⟨D, hD⟩ : ∃ D, distL (l.take k) = D := ⟨_, rfl⟩
      have HR1 := HR.out
      rw [hD] at HR1 HS
      obtain ⟨a3, o3, c3, rfl, _, hr3⟩ := isS_of_owns Fr.len HR1.2.1 HR1.1
      have HD3 : Hid (RowsAt 9 Fr.cs wo a3 o3 D) := hr3
      have HDL := Lib.hid HR1.1
      have HO := Lib.hid HR1.2.1
      have HB := Lib.hid HR1.2.2
      have hlow : w.heap.size ≤ wo.heap.size := HR1.2.2.size
      clear hrA hs hr3 HR1 hD HR
      rw [HDL.out] at HO ⊢
      go_wp2_with fail
      go_loopw [5, 6] (fun v5 i wr => ∃ j : Nat, j ≤ m ∧ i = .int .i64 j ∧ v5 = .bool (decide (s ∈ D.take j)) ∧ Hid (Below wo.heap.size wo wr)) (fun _ i _ => m - (intOf i).toNat)
      case atStart => exact ⟨0, Nat.zero_le _, rfl, by simp, Below.refl _ _⟩
      case round =>
        obtain ⟨j, hj, rfl, rfl, HI⟩ := hrel
        by_cases hltj : j < m
        · obtain ⟨g, hg⟩ : ∃ g, D[j]? = some g := ⟨_, List.getElem?_eq_getElem (by rw [HDL.out]; exact hltj)⟩
          obtain ⟨b3, rfl, hb3, hrD⟩ := HD3.out j g hg
          have HrD := Lib.hid hrD
          have HT : Hid (decide (s ∈ D.take (j + 1)) = (decide (s ∈ D.take j) || decide (g = s))) := by
            unfold Hid
            rw [← Bool.decide_or]
            exact decide_eq_decide.2 (mem_take_succ D j g s hg)
          clear hrD hg
          obtain ⟨b, hbb⟩ : ∃ b, decide (s ∈ D.take j) = b := ⟨_, rfl⟩
          rw [hbb] at HT ⊢
          clear hbb
          cases b with
          | true =>
            go_wp2_with fail
            go_quiet (fail)
            go_wp2_with fail
            go_roundw
            case rel => exact ⟨j + 1, by omega, by go_num, by rw [HT.out]; rfl, bdN HI.out nq⟩
            case measure => simp [intOf] <;> omega
          | false =>
            go_wp2_with fail
            refine wp_region_class (C := fun w' : World => Below wo.heap.size wo w') (by kernel_rfl) (by kernel_rfl) ((HI.out).drew) ?_
            repeat
              (refine wpQuiet_step (fun K hK => ?_)
               first
               | (refine bl_skip (by rfl) ?_; go_simp; refine hK _ ?_; clear hK K)
               | (refine bl_want (by rfl) ?_
                  apply Exists.intro
                  apply And.intro
                  next =>
                    intro w' hw'
                    first
                      | exact quiet_load 39 _ rfl b3 _ g.cs _ rfl (rangeAt_kept HrD.out hw' hb3) Try.underlying39 rfl Try.size39
                      | exact quiet_load 39 _ rfl bA _ s.cs _ rfl (rangeAt_kept HRA.out hw' (Nat.lt_of_lt_of_le hbA hlow)) Try.underlying39 rfl Try.size39
                      | exact quiet_eqF _ _ rfl g s rfl rfl
                      | (unfold Oper.quietAt; go_simp; exact rfl)
                  go_simp
                  refine hK _ ?_
                  clear hK K))
            refine wpQuiet_nil ?_
            intro w4 hb4
            have HB4 := Lib.hid hb4
            clear hb4
            go_wp2_with fail
            go_roundw
            case rel => exact ⟨j + 1, by omega, by go_num, by rw [HT.out]; rfl, HB4.out⟩
            case measure => simp [intOf] <;> omega
        · have hjm : m ≤ j := by omega
          obtain ⟨b, hbb⟩ : ∃ b, decide (s ∈ D.take j) = b := ⟨_, rfl⟩
          have hTD : D.take j = D := List.take_of_length_le (by rw [HDL.out]; exact hjm)
          rw [hbb]
          rw [hTD] at hbb
          have hlow2 : wo.heap.size ≤ wr.heap.size := HI.out.size
          have HBr := Lib.hid (HB.out.trans (HI.out.mono hlow))
          have HOr := Lib.hid (ownsS_below HO.out HI.out)
          have HRr := Lib.hid (rangeAt_kept HRA.out HI.out (Nat.lt_of_lt_of_le hbA hlow))
          cases b with
          | true =>
            have HS' : Hid (distL (l.take (k + 1)) = D) := by unfold Hid; rw [HS.out]; exact if_pos (of_decide_eq_true hbb)
            clear hbb hTD HS
            go_wp2_with fail
            go_roundw
            case rel => exact ⟨k + 1, m, by omega, by omega, by go_num, by rw [HS'.out]; exact HDL.out, by rw [HS'.out]; exact HOr.out, HBr.out⟩
            case measure => simp [intOf] <;> omega
          | false =>
            have HS' : Hid (distL (l.take (k + 1)) = D ++ [s]) := by unfold Hid; rw [HS.out]; exact if_neg (of_decide_eq_false hbb)
            clear hbb hTD HS
            go_wp2_with first
              | refine wpList_load_mid rfl 39 _ rfl bA _ rfl s.cs _ HRr.out Try.underlying39 rfl Try.size39 ?_
              | refine wpList_slice1 rfl 23 39 _ rfl Try.underlying23 _ 9 80 Try.infoF (by omega) (by omega) Fr.cs Fr.len s rfl ?_
              | (at_builtin; refine wpList_append_S rfl _ _ 23 39 rfl Try.underlying23 _ 9 80 Try.infoF rfl (by omega) (by omega) Fr.cs Fr.len Fr.ones w.heap.size _ m D rfl (HOr.out.alloc _) HDL.out (by simp; omega) wr.heap.size 1 s rfl (box_range wr s.cs 39) (by omega) ?_; intro v4 w4 ho4 hg4)
            go_roundw
            case rel =>
              refine ⟨k + 1, m + 1, by omega, by omega, by go_num, ?_, ?_, belowS_grown (HBr.out.alloc (by omega) _) (HOr.out.alloc _) hg4 (by simp; omega) (Nat.le_refl _)⟩
              · rw [HS'.out, List.length_append, HDL.out]; rfl
              · rw [HS'.out]; exact ho4
            case measure => simp [intOf] <;> omega
    · have hnk : n ≤ k := by omega
      have HF : Hid (IsS 9 Fr.cs wo u3 (distL l) ∧ Below w.heap.size w wo) := by
        unfold Hid
        have := HR.out
        rw [List.take_of_length_le (by rw [HN.out]; exact hnk)] at this
        exact ⟨isS_of_owns Fr.len this.2.1 this.1, this.2.2⟩
      go_wp2
      go_ret
      exact ⟨_, rfl, HF.out⟩
end Go.Proofs.Ytafididfgljfcaa
