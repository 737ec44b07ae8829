/-
  The reference's Same, walked: two lists that are one.
-/
import Derived.Test.YtafididfgljfcaaAwk
import Derived.Test.YtafididfgljfcaaOpS
namespace Go.Proofs.Ytafididfgljfcaa
open Go.RowKit
set_option linter.unusedVariables false
set_option maxRecDepth 100000 in
set_option maxHeartbeats 1000000 in
theorem same_any (l : List He) (n : Nat) (v u : Value) (w : World) (hn : l.length = n) (hl : IsS 5 He.cs w v l) (hu : IsS 5 He.cs w u l) :
    Calls Try.prog 12 #[v, u] w fun e w' => e = .returned (.bool true) ∧ Below w.heap.size w w' := by
  obtain ⟨aA, oA, cA, rfl, hmx, hA⟩ := hl
  obtain ⟨aB, oB, cB, rfl, _, hB⟩ := hu
  rw [hn] at hmx ⊢
  unfold maxLen at hmx
  have HN := Lib.hid hn
  have HA : Hid (RowsAt 5 He.cs w aA oA l) := hA
  have HB : Hid (RowsAt 5 He.cs w aB oB l) := hB
  clear hA hB hn
  go_enter Try.func12, Try.ntmps12
  go_wp2_with fail
  go_loopw [5] (fun i wr => ∃ k : Nat, k ≤ n ∧ i = .int .i64 k ∧ Hid (Below w.heap.size w wr)) (fun i _ => n - (intOf i).toNat)
  case atStart => exact ⟨0, Nat.zero_le _, rfl, Below.refl _ _⟩
  case round =>
    obtain ⟨k, hk, rfl, HO⟩ := hrel
    by_cases hlt : k < n
    · obtain ⟨s, hs⟩ : ∃ s, l[k]? = some s := ⟨_, List.getElem?_eq_getElem (by rw [HN.out]; exact hlt)⟩
      obtain ⟨bA, rfl, hbA, hrA⟩ := HA.out k s hs
      obtain ⟨bB, rfl, hbB, hrB⟩ := HB.out k s hs
      have HrA := Lib.hid hrA
      have HrB := Lib.hid hrB
      clear hrA hrB hs
      obtain ⟨r0, f0, m0, w0, c0⟩ := s
      go_wp2_with fail
      refine wp_region_class (C := fun w' : World => Below w.heap.size w w') (by kernel_rfl) (by kernel_rfl) ((HO.out).drew) ?_
      repeat
        (refine wpQuiet_step (fun K hK => ?_)
         first
         | (refine bl_skip (by rfl) ?_; go_simp; refine hK _ ?_; clear hK K)
         | (refine bl_want (by rfl) ?_
            apply Exists.intro
            apply And.intro
            next =>
              intro w' hw'
              first
                | exact quiet_load 31 _ rfl bA _ (He.cs ⟨r0, f0, m0, w0, c0⟩) _ rfl (rangeAt_kept HrA.out hw' hbA) Try.underlying31 rfl Try.size31
                | exact quiet_load 31 _ rfl bB _ (He.cs ⟨r0, f0, m0, w0, c0⟩) _ rfl (rangeAt_kept HrB.out hw' hbB) Try.underlying31 rfl Try.size31
                | (unfold Oper.quietAt; go_simp; exact rfl)
                | (unfold Oper.quietAt; simp only [He.cs]; go_simp; first | exact rfl | exact ⟨rfl, rfl⟩)
            go_simp
            refine hK _ ?_
            clear hK K))
      refine wpQuiet_nil ?_
      intro w4 hb4
      have HB4 := Lib.hid hb4
      clear hb4
      go_wp2_with fail
      go_roundw
      case rel => exact ⟨k + 1, by omega, by go_num, HB4.out⟩
      case measure => simp [intOf] <;> omega
    · have hnk : n ≤ k := by omega
      go_wp2_with fail
      go_ret
      exact ⟨rfl, HO.out⟩
end Go.Proofs.Ytafididfgljfcaa
