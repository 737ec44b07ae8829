/-
  distinct, walked.
-/
import Derived.Test.YtafididfgljfcaaSlB
namespace Go.Proofs.Ytafididfgljfcaa
open Go.RowKit
set_option linter.unusedVariables false

def DisRel (B : Nat) (w0 : World) (D : List Fr) (v : Value) (wr : World) : Prop :=
  MapIs wr Try.prog 39 Fr.v Value.bool B (seenL D) ∧ wr.ownsRow (B + 1) 39 9 v D.length (D.flatMap Fr.cs) ∧ Below B w0 wr ∧ B < wr.heap.size
set_option maxRecDepth 100000 in
set_option maxHeartbeats 1000000 in
theorem distinct_any (l : List Fr) (n : Nat) (v : Value) (w : World) (hn : l.length = n) (hn2 : n ≤ 100) (hl : IsS 9 Fr.cs w v l) (hok : ∀ s ∈ l, s.Ok) :
    Calls Try.prog 21 #[v] w fun e w' => ∃ v', e = .returned v' ∧ IsS 9 Fr.cs w' v' (distL l) ∧ Below w.heap.size w w' := by
  obtain ⟨aA, oA, cA, rfl, _, hA⟩ := hl
  rw [hn]
  have HA := Lib.hid hA
  have HN := Lib.hid hn
  have HOK := Lib.hid hok
  have hmm := @run_makeMap Try.prog
  clear hA hn hok
  go_enter Try.func21, Try.ntmps21
  go_wp2
  go_loopw [4, 10] (fun v4 i wr => ∃ k : Nat, k ≤ n ∧ i = .int .i64 k ∧ Hid (DisRel w.heap.size w (distL (l.take k)) v4 wr)) (fun _ i _ => n - (intOf i).toNat)
  case atStart => exact ⟨0, Nat.zero_le _, rfl, MapIs.made _ _ _ _ _, World.ownsRow_nil _ _ _ _, (Below.refl _ _).alloc (Nat.le_refl _) _, by simp⟩
  case round =>
    clear hmm
    obtain ⟨k, hk, rfl, HR⟩ := hrel
    obtain ⟨wo, rfl⟩ : ∃ wo : World, wo = wr := ⟨_, rfl⟩
    by_cases hlt : k < n
    · obtain ⟨s, hs⟩ : ∃ s, l[k]? = some s := ⟨_, List.getElem?_eq_getElem (by rw [HN.out]; exact hlt)⟩
      have hokS : s.Ok := HOK.out s (List.mem_of_getElem? hs)
      obtain ⟨bA, rfl, hbA, hrA⟩ := HA.out k s hs
      have HRA := Lib.hid (rangeAt_kept hrA HR.out.2.2.1 hbA)
      have HS := Lib.hid (distL_snoc l k s hs)
      obtain ⟨lit, hlit⟩ := hokS.key
      have HKEY := Lib.hid hlit
      clear hrA hokS hlit
      obtain ⟨D, hD⟩ : ∃ D, distL (l.take k) = D := ⟨_, rfl⟩
      have hDL : D.length ≤ k := by rw [← hD]; exact Nat.le_trans (distL_len _) (by rw [List.length_take]; omega)
      have HR1 := HR.out
      unfold DisRel at HR1
      rw [hD] at HR1
      rw [hD] at HS
      have hlow := HR1.2.2.2
      have HB := Lib.hid HR1.2.2.1
      have HO := Lib.hid HR1.2.1
      have HM : Hid (MapIs (wo.alloc (.cells s.cs.toArray 39)) Try.prog 39 Fr.v Value.bool w.heap.size (seenL D)) := HR1.1.alloc _
      have HRF : Hid ((wo.alloc (.cells s.cs.toArray 39)).rangeAt wo.heap.size 0 s.cs) := box_range wo s.cs 39
      have hSL : (seenL D).length = D.length := List.length_map _
      have HP := Lib.hid (putK_seen D s)
      clear HR1 hD HR
      by_cases hm : s ∈ D
      · have HS' : Hid (distL (l.take (k + 1)) = D) := by unfold Hid; rw [HS.out]; exact if_pos hm
        have HGK : Hid (getK (seenL D) s = some true) := by unfold Hid; rw [getK_seen, if_pos hm]
        clear HS hm
        go_wp2_with first
          | refine wpList_load_mid rfl 39 _ rfl bA _ rfl s.cs _ HRA.out Try.underlying39 rfl Try.size39 ?_
          | refine wpList_store_new rfl 39 _ _ rfl wo _ s.cs.toArray rfl rfl rfl Try.size39 rfl s.one ?_
          | refine wpList_load_mid rfl 39 _ rfl wo.heap.size 0 rfl s.cs _ HRF.out Try.underlying39 rfl Try.size39 ?_
          | (at_lookup; refine wpList_map_hit encF rfl _ _ 70 rfl Try.underlying70 (.bool false) (Try.zeroValue4 _) w.heap.size (seenL D) rfl HM.out s rfl HKEY.out true HGK.out ?_)
          | (at_mapUpdate; refine wpList_map_store encF rfl _ _ _ 70 rfl Try.underlying70 w.heap.size (seenL D) rfl HM.out (by unfold maxLen; omega) s true rfl rfl HKEY.out ?_; intro w4 hm4 hg4)
        go_roundw
        case rel =>
          refine ⟨k + 1, by omega, by go_num, ?_⟩
          unfold Hid DisRel
          rw [HS'.out]
          rw [HP.out] at hm4
          have e1 : dstep D s = D := by have := HS'.out; exact dstep_of_seen HGK.out
          rw [e1] at hm4
          exact ⟨hm4, (HO.out.alloc _).kept hg4 (ownsS_ne HO.out (Nat.lt_succ_self _)), bd_grown (HB.out.alloc (Nat.le_of_lt hlow) _) hg4 (by simp; omega) (Nat.le_refl _), Nat.lt_of_lt_of_le (by simp; omega) hg4.size⟩
        case measure => simp [intOf] <;> omega
      · have HS' : Hid (distL (l.take (k + 1)) = D ++ [s]) := by unfold Hid; rw [HS.out]; exact if_neg hm
        have HD' : Hid (dstep D s = D ++ [s]) := if_neg hm
        have HGK : Hid (getK (seenL D) s = none) := by unfold Hid; rw [getK_seen, if_neg hm]
        clear HS hm
        go_wp2_with first
          | refine wpList_load_mid rfl 39 _ rfl bA _ rfl s.cs _ HRA.out Try.underlying39 rfl Try.size39 ?_
          | refine wpList_store_new rfl 39 _ _ rfl wo _ s.cs.toArray rfl rfl rfl Try.size39 rfl s.one ?_
          | refine wpList_load_mid rfl 39 _ rfl wo.heap.size 0 rfl s.cs _ HRF.out Try.underlying39 rfl Try.size39 ?_
          | (at_lookup; refine wpList_map_miss encF rfl _ _ 70 rfl Try.underlying70 (.bool false) (Try.zeroValue4 _) w.heap.size (seenL D) rfl HM.out s rfl HKEY.out HGK.out ?_)
          | refine wpList_slice1 rfl 23 39 _ rfl Try.underlying23 _ 9 80 Try.infoF (by omega) (by omega) Fr.cs Fr.len s rfl ?_
          | (at_builtin; refine wpList_append_S rfl _ _ 23 39 rfl Try.underlying23 _ 9 80 Try.infoF rfl (by omega) (by omega) Fr.cs Fr.len Fr.ones (w.heap.size + 1) _ D.length D rfl ((HO.out.alloc _).alloc _) rfl (by simp; omega) (wo.alloc (.cells s.cs.toArray 39)).heap.size 1 s rfl (box_range (wo.alloc (.cells s.cs.toArray 39)) s.cs 39) (by omega) ?_; intro v4 w4 ho4 hg4)
          | refine wpList_load_mid rfl 39 _ rfl wo.heap.size 0 rfl s.cs _ (rangeAt_grown (World.rangeAt_alloc HRF.out _) hg4 (by simp; omega) (owns_new HO.out (Nat.le_refl _))) Try.underlying39 rfl Try.size39 ?_
          | (at_mapUpdate; refine wpList_map_store encF rfl _ _ _ 70 rfl Try.underlying70 w.heap.size (seenL D) rfl ((HM.out.alloc _).grown hg4 (ownsS_ne' HO.out (Nat.lt_succ_self _))) (by unfold maxLen; omega) s true rfl rfl HKEY.out ?_; intro w5 hm5 hg5)
        go_roundw
        case rel =>
          refine ⟨k + 1, by omega, by go_num, ?_⟩
          unfold Hid DisRel
          rw [HS'.out]
          rw [HP.out, HD'.out] at hm5
          have e0 : w.heap.size + 1 ≤ w4.heap.size := Nat.le_trans (by simp; omega) hg4.size
          refine ⟨hm5, ?_, bd_grown (belowS_grown ((HB.out.alloc (Nat.le_of_lt hlow) _).alloc (by simp; omega) _) ((HO.out.alloc _).alloc _) hg4 (by simp; omega) (by omega)) hg5 (by omega) (Nat.le_refl _), Nat.lt_of_lt_of_le (by omega) hg5.size⟩
          rw [List.length_append]
          exact ho4.kept hg5 (ownsS_ne ho4 (Nat.lt_succ_self _))
        case measure => simp [intOf] <;> omega
    · have hnk : n ≤ k := by omega
      have HF : Hid (IsS 9 Fr.cs wo u4 (distL l) ∧ Below w.heap.size w wo) := by
        unfold Hid
        have := HR.out
        unfold DisRel at this
        rw [List.take_of_length_le (by rw [HN.out]; exact hnk)] at this
        exact ⟨isS_of_owns Fr.len this.2.1 rfl, this.2.2.1⟩
      go_wp2
      go_ret
      exact ⟨_, rfl, HF.out⟩
end Go.Proofs.Ytafididfgljfcaa
