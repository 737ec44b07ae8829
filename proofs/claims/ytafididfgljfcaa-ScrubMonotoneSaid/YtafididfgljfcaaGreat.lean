/-
  The reference's Great, walked.
-/
import Derived.Test.YtafididfgljfcaaAwk
import Derived.Test.YtafididfgljfcaaOpS
namespace Go.Proofs.Ytafididfgljfcaa
open Go.RowKit
set_option linter.unusedVariables false
def Small (l : List Sg) (n m : Nat) : Prop := n ≤ 40 ∧ m ≤ 40 ∧ ∀ s ∈ l, 0 ≤ s.corr ∧ s.corr ≤ 52
set_option maxRecDepth 100000 in
set_option maxHeartbeats 2000000 in
theorem great_any (l : List Sg) (n m : Nat) (v : Value) (af : Option Addr) (cf : Nat) (w : World) (hn : l.length = n) (hm : m ≤ maxLen) (hl : IsS 14 Sg.cs w v l) :
    Calls Try.prog 10 #[v, .slice af m cf] w fun e w' => w = w' ∧ ((e = .returned (.int .i64 1)) ∨ (e = .returned (.int .i64 0) ∧ Small l n m)) := by
  obtain ⟨aA, oA, cA, rfl, hmx, hA⟩ := hl
  rw [hn] at hmx ⊢
  unfold maxLen at hmx hm
  have HN := Lib.hid hn
  have HA : Hid (RowsAt 14 Sg.cs w aA oA l) := hA
  clear hA hn
  go_enter Try.func10, Try.ntmps10
  by_cases h1 : 40 < n
  · go_wp2_with fail
    go_ret
    exact ⟨rfl, Or.inl rfl⟩
  · by_cases h2 : 40 < m
    · go_wp2_with fail
      go_ret
      exact ⟨rfl, Or.inl rfl⟩
    · go_wp2_with fail
      go_loopw [5] (fun i wr => ∃ k : Nat, k ≤ n ∧ i = .int .i64 k ∧ w = wr ∧ Hid (∀ j s, j < k → l[j]? = some s → 0 ≤ s.corr ∧ s.corr ≤ 52)) (fun i _ => n - (intOf i).toNat)
      case atStart => exact ⟨0, Nat.zero_le _, rfl, rfl, fun j h hj => by omega⟩
      case round =>
        obtain ⟨k, hk, rfl, rfl, HO⟩ := hrel
        by_cases hlt : k < n
        · obtain ⟨s, hs⟩ : ∃ s, l[k]? = some s := ⟨_, List.getElem?_eq_getElem (by rw [HN.out]; exact hlt)⟩
          obtain ⟨bA, rfl, hbA, hrA⟩ := HA.out k s hs
          have hc3 : w.cell? ⟨bA, oA + k * 14 + 13, none⟩ = some (.int .i64 s.corr) := hrA 13 _ rfl
          have HS := Lib.hid hs
          clear hrA hs
          by_cases g0 : s.corr < 0
          · go_wp2_with fail
            go_ret
            exact ⟨rfl, Or.inl rfl⟩
          · by_cases g1 : 52 < s.corr
            · go_wp2_with fail
              go_ret
              exact ⟨rfl, Or.inl rfl⟩
            · go_wp2_with fail
              go_roundw
              case rel =>
                refine ⟨k + 1, by omega, by go_num, trivial, fun j h hj hh => ?_⟩
                by_cases e : j = k
                · subst e
                  rw [HS.out] at hh; cases hh
                  exact ⟨by omega, by omega⟩
                · exact HO.out j h (by omega) hh
              case measure => simp [intOf] <;> omega
        · have HOK : Hid (Small l n m) := by
            refine ⟨by omega, by omega, fun h hh => ?_⟩
            obtain ⟨j, hj⟩ := List.mem_iff_getElem?.1 hh
            have := (List.getElem?_eq_some_iff.1 hj).1
            rw [HN.out] at this
            exact HO.out j h (by omega) hj
          have hnk : n ≤ k := by omega
          clear HO
          go_wp2_with fail
          go_ret
          exact ⟨rfl, Or.inr ⟨rfl, HOK.out⟩⟩
end Go.Proofs.Ytafididfgljfcaa
