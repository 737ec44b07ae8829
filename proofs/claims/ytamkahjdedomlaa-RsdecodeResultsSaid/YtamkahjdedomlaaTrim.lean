/-
  The walks of slices.Clone on bytes and of gfpoly.Trim.
-/
import Derived.Test.YtamkahjdedomlaaSl
import Derived.Test.YtamkahjdedomlaaPolyDef
namespace Go.Proofs.Ytamkahjdedomlaa
open Go.RowKit
set_option linter.unusedVariables false

theorem Try.infoU8 : (Try.prog.info? 5).map (fun i => (i.zero, i.size, i.bytes)) = some (some (.int .u8 0), 1, 1) := by kernel_rfl

theorem clone_any (v : Value) (l : List UInt8) (w : World) (hv : Sl w 0 v l) (hz : l.length ≤ 100000) : Calls Try.prog 48 #[v] w fun e w' => ∃ v', e = .returned v' ∧ Sl w' w.heap.size v' l ∧ Below w.heap.size w w' := by
  have hsn := fun (w : World) (a : Option Addr) (n c : Nat) => Lib.run_eql_slice_nil (P := Try.prog) w 33 5 a n c 0 0 Try.underlying33
  rcases hv with ⟨a, cap, rfl, rfl⟩ | ⟨g, cap, rfl, hne, h1, h2, _, hc⟩
  · cases a with
    | none =>
      go_enter Try.func48, Try.ntmps48
      go_wp2
      go_ret
      exact ⟨_, rfl, Or.inl ⟨_, _, rfl, rfl⟩, Below.refl _ _⟩
    | some a =>
      go_enter Try.func48, Try.ntmps48
      go_wp2_with (at_builtin; refine wpList_append_empty rfl _ _ 33 5 rfl Try.underlying33 Try.infoU8 w.heap.size _ [] rfl ?h1 ?h2 a cap rfl (by simp) ?_)
      case h1 => exact World.ownsRow_lit w #[] 0 (Nat.le_refl _) (by unfold maxLen; omega) rfl
      case h2 => simp
      intro v' w' hown hgr
      go_wp2
      go_ret
      exact ⟨_, rfl, sl_of_owns hown, ((Below.refl _ w).alloc (Nat.le_refl _) _).trans (below_own hgr (by simp) (Nat.le_refl _))⟩
  · have HL := Lib.hid hc
    obtain ⟨n, hn⟩ : ∃ n, l.length = n := ⟨_, rfl⟩
    rw [hn] at hz ⊢
    have HN := Lib.hid hn
    clear hn hc h1 h2 hne
    go_enter Try.func48, Try.ntmps48
    go_wp2_with (at_builtin; refine wpList_append_bytes rfl _ _ 33 5 rfl Try.underlying33 Try.infoU8 w.heap.size _ [] rfl ?h1 ?h2 g n cap l rfl HN.out ?h3 ?h4 ?_)
    case h1 => exact World.ownsRow_lit w #[] 0 (Nat.le_refl _) (by unfold maxLen; omega) rfl
    case h2 => simp
    case h3 => exact HL.out.alloc _
    case h4 => have := HN.out; simp; omega
    intro v' w' hown hgr
    go_wp2
    go_ret
    exact ⟨_, rfl, sl_of_owns hown, ((Below.refl _ w).alloc (Nat.le_refl _) _).trans (below_own hgr (by simp) (Nat.le_refl _))⟩

set_option maxHeartbeats 400000 in
theorem trim_any (v : Value) (l : List UInt8) (w : World) (hv : Sl w 0 v l) (hz : l.length ≤ 100000) : Calls Try.prog 45 #[v] w fun e w' => ∃ v', e = .returned v' ∧ Sl w' w.heap.size v' (trim l) ∧ Below w.heap.size w w' := by
  rcases hv with ⟨a, cap, rfl, rfl⟩ | ⟨g, cap, rfl, hne, h1, h2, _, hc⟩
  · cases a
    all_goals
      go_enter Try.func45, Try.ntmps45
      go_wp2
      refine wp_loop_rounds 1 ?_
      rw [rounds_succ]
      go_wp2_with fail
      refine (clone_any _ [] _ (Or.inl ⟨_, _, rfl, rfl⟩) (by simp)).mono ?_
      rintro e w' ⟨v', rfl, hs, hb⟩
      go_wp2
      go_ret
      exact ⟨_, rfl, hs, hb⟩
  · obtain ⟨N, hN⟩ : ∃ N, l.length = N := ⟨_, rfl⟩
    rw [hN] at hz h1 ⊢
    have HN := Lib.hid hN
    have HC := Lib.hid hc
    clear hN hc hne
    unfold maxLen at h2
    go_enter Try.func45, Try.ntmps45
    go_wp2
    go_loop [3] (fun x => ∃ n : Nat, n ≤ N ∧ x = .int .i64 n ∧ Hid (trimN l n = trimN l N)) (fun x => (intOf x).toNat)
    case atStart => exact ⟨N, Nat.le_refl _, rfl, rfl⟩
    case round =>
      obtain ⟨n, hn, rfl, hT⟩ := hrel
      cases n with
      | zero =>
        have H0 : Hid (trim l = l.take 0) := by unfold trim Hid; rw [HN.out, ← hT.out]; rfl
        go_wp2_with fail
        refine (clone_any _ [] _ (Or.inl ⟨_, _, rfl, rfl⟩) (by simp)).mono ?_
        rintro e w' ⟨v', rfl, hs, hb⟩
        go_wp2
        go_ret
        exact ⟨_, rfl, by rw [H0.out]; exact hs, hb⟩
      | succ m =>
        have hcm := HC.out.at m (by rw [HN.out]; omega)
        have hstep : Hid (trimN l (m + 1) = if l[m]?.getD 0 = 0 then trimN l m else m + 1) := rfl
        obtain ⟨x, hx⟩ : ∃ x, l[m]?.getD 0 = x := ⟨_, rfl⟩
        rw [hx] at hcm hstep
        clear hx
        by_cases hx0 : x = 0
        · subst hx0
          have hcm' : w.cell? ⟨g, m, none⟩ = some (.int .u8 0) := hcm
          have HS : Hid (trimN l m = trimN l N) := by unfold Hid; rw [← hT.out, hstep.out, if_pos rfl]
          clear hcm
          go_wp2_with fail
          go_round
          case rel => exact ⟨m, by omega, by go_num, HS⟩
          case measure => simp [intOf] <;> omega
        · have hxn := u8_ne x 0 0 rfl hx0
          have H0 : Hid (trim l = l.take (m + 1)) := by unfold trim Hid; rw [HN.out, ← hT.out, hstep.out, if_neg hx0]
          go_wp2_with fail
          refine (clone_any _ (l.take (m + 1)) _ (Sl.take HC.out (Nat.zero_le _) (by rw [HN.out]; exact h1) (by unfold maxLen; exact h2) (m + 1) (by rw [HN.out]; exact hn)) (by rw [List.length_take]; omega)).mono ?_
          rintro e w' ⟨v', rfl, hs, hb⟩
          go_wp2
          go_ret
          exact ⟨_, rfl, by rw [H0.out]; exact hs, hb⟩
end Go.Proofs.Ytamkahjdedomlaa
