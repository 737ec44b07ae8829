/-
  counts, walked.
-/
import Derived.Test.YtafididfgljfcaaSg
import Derived.Test.YtafididfgljfcaaBl
import Derived.WalkKit
namespace Go.Proofs.Ytafididfgljfcaa
open Go.RowKit
set_option linter.unusedVariables false

def CntRel (B : Nat) (w0 : World) (l : List Sg) (k : Nat) (wr : World) : Prop :=
  MapIs wr Try.prog 39 Fr.v iv B (countsL (l.take k)) ∧ Below B w0 wr ∧ B < wr.heap.size
set_option maxRecDepth 100000 in
set_option maxHeartbeats 4000000 in
theorem counts_any (l : List Sg) (n : Nat) (v : Value) (w : World) (hn : l.length = n) (hn2 : n ≤ 100) (hl : IsS 14 Sg.cs w v l) (hok : ∀ s ∈ l, s.frame.Ok) :
    Calls Try.prog 20 #[v] w fun e w' => e = .returned (.map (some w.heap.size)) ∧ MapIs w' Try.prog 39 Fr.v iv w.heap.size (countsL l) ∧ Below w.heap.size w w' := by
  obtain ⟨aA, oA, cA, rfl, _, hA⟩ := hl
  rw [hn]
  have HA := Lib.hid hA
  have HN := Lib.hid hn
  have HOK := Lib.hid hok
  have hmm := @run_makeMap Try.prog
  clear hA hn hok
  go_enter Try.func20, Try.ntmps20
  go_wp2
  go_loopw [11] (fun i wr => ∃ k : Nat, k ≤ n ∧ i = .int .i64 k ∧ Hid (CntRel w.heap.size w l k wr)) (fun i _ => n - (intOf i).toNat)
  case atStart => exact ⟨0, Nat.zero_le _, rfl, MapIs.made _ _ _ _ _, (Below.refl _ _).alloc (Nat.le_refl _) _, by simp⟩
  case round =>
    clear hmm
    obtain ⟨k, hk, rfl, HR⟩ := hrel
    obtain ⟨wo, rfl⟩ : ∃ wo : World, wo = wr := ⟨_, rfl⟩
    by_cases hlt : k < n
    · obtain ⟨s, hs⟩ : ∃ s, l[k]? = some s := ⟨_, List.getElem?_eq_getElem (by rw [HN.out]; exact hlt)⟩
      have hokS : s.frame.Ok := HOK.out s (List.mem_of_getElem? hs)
      obtain ⟨bA, rfl, hbA, hrA⟩ := HA.out k s hs
      have HRA := Lib.hid (rangeAt_kept hrA HR.out.2.1 hbA)
      have HS := Lib.hid (countsL_snoc l k s hs)
      obtain ⟨lit, hlit⟩ := hokS.key
      have HKEY := Lib.hid hlit
      clear hrA hokS hlit
      obtain ⟨M, hM⟩ : ∃ M, countsL (l.take k) = M := ⟨_, rfl⟩
      have hML : M.length ≤ k := by rw [← hM]; exact Nat.le_trans (countsL_len _) (by rw [List.length_take]; omega)
      have HR1 := HR.out
      unfold CntRel at HR1
      rw [hM] at HR1
      rw [hM] at HS
      have hlow := HR1.2.2
      have HB := Lib.hid HR1.2.1
      have HM : Hid (MapIs (wo.alloc (.cells s.cs.toArray 43)) Try.prog 39 Fr.v iv w.heap.size M) := HR1.1.alloc _
      have HRF : Hid ((wo.alloc (.cells s.cs.toArray 43)).rangeAt wo.heap.size 2 s.frame.cs) := Sg.frameAt (box_range wo s.cs 43)
      have hc13 : (wo.alloc (.cells s.cs.toArray 43)).cell? ⟨wo.heap.size, 13, none⟩ = some (.int .i64 s.corr) := box_cell wo s.cs _ 13 _ rfl
      have hc13' : s.cs[13]? = some (.int .i64 s.corr) := rfl
      clear HR1 hM
      cases hgk : getK M s.frame with
      | none =>
        have HS' : Hid (countsL (l.take (k + 1)) = putK M s.frame s.corr) := by unfold Hid; rw [HS.out]; unfold cstep; rw [hgk]
        have HGK := Lib.hid hgk
        clear hgk HS
        go_wp2_with first
          | refine wpList_load_mid rfl 43 _ rfl bA _ rfl s.cs _ HRA.out Try.underlying43 rfl Try.size43 ?_
          | refine wpList_store_new rfl 43 _ _ rfl wo _ s.cs.toArray rfl rfl rfl Try.size43 rfl s.one ?_
          | refine wpList_load_mid rfl 39 _ rfl wo.heap.size 2 rfl s.frame.cs _ HRF.out Try.underlying39 rfl Try.size39 ?_
          | (at_lookup; refine wpList_map_ok_miss encF rfl _ _ 53 rfl Try.underlying53 (iv 0) (Try.zeroValue3 _) w.heap.size M rfl HM.out s.frame rfl HKEY.out HGK.out ?_)
          | (at_mapUpdate; refine wpList_map_store encF rfl _ _ _ 53 rfl Try.underlying53 w.heap.size M rfl HM.out (by unfold maxLen; omega) s.frame s.corr rfl rfl HKEY.out ?_; intro w4 hm4 hg4)
        go_roundw
        case rel => exact ⟨k + 1, by omega, by go_num, by rw [HS'.out]; exact hm4, bd_grown (HB.out.alloc (Nat.le_of_lt hlow) _) hg4 (by simp; omega) (Nat.le_refl _), Nat.lt_of_lt_of_le (by simp; omega) hg4.size⟩
        case measure => simp [intOf] <;> omega
      | some old =>
        by_cases hlt2 : s.corr < old
        · have HS' : Hid (countsL (l.take (k + 1)) = putK M s.frame s.corr) := by unfold Hid; rw [HS.out]; unfold cstep; rw [hgk]; exact if_pos hlt2
          have HGK := Lib.hid hgk
          clear hgk HS
          go_wp2_with first
            | refine wpList_load_mid rfl 43 _ rfl bA _ rfl s.cs _ HRA.out Try.underlying43 rfl Try.size43 ?_
            | refine wpList_store_new rfl 43 _ _ rfl wo _ s.cs.toArray rfl rfl rfl Try.size43 rfl s.one ?_
            | refine wpList_load_mid rfl 39 _ rfl wo.heap.size 2 rfl s.frame.cs _ HRF.out Try.underlying39 rfl Try.size39 ?_
            | (at_lookup; refine wpList_map_ok_hit encF rfl _ _ 53 rfl Try.underlying53 (iv 0) (Try.zeroValue3 _) w.heap.size M rfl HM.out s.frame rfl HKEY.out old HGK.out ?_)
            | (at_mapUpdate; refine wpList_map_store encF rfl _ _ _ 53 rfl Try.underlying53 w.heap.size M rfl HM.out (by unfold maxLen; omega) s.frame s.corr rfl rfl HKEY.out ?_; intro w4 hm4 hg4)
          go_roundw
          case rel => exact ⟨k + 1, by omega, by go_num, by rw [HS'.out]; exact hm4, bd_grown (HB.out.alloc (Nat.le_of_lt hlow) _) hg4 (by simp; omega) (Nat.le_refl _), Nat.lt_of_lt_of_le (by simp; omega) hg4.size⟩
          case measure => simp [intOf] <;> omega
        · have HS' : Hid (countsL (l.take (k + 1)) = M) := by unfold Hid; rw [HS.out]; unfold cstep; rw [hgk]; exact if_neg hlt2
          have HGK := Lib.hid hgk
          clear hgk HS
          go_wp2_with first
            | refine wpList_load_mid rfl 43 _ rfl bA _ rfl s.cs _ HRA.out Try.underlying43 rfl Try.size43 ?_
            | refine wpList_store_new rfl 43 _ _ rfl wo _ s.cs.toArray rfl rfl rfl Try.size43 rfl s.one ?_
            | refine wpList_load_mid rfl 39 _ rfl wo.heap.size 2 rfl s.frame.cs _ HRF.out Try.underlying39 rfl Try.size39 ?_
            | (at_lookup; refine wpList_map_ok_hit encF rfl _ _ 53 rfl Try.underlying53 (iv 0) (Try.zeroValue3 _) w.heap.size M rfl HM.out s.frame rfl HKEY.out old HGK.out ?_)
          go_roundw
          case rel => exact ⟨k + 1, by omega, by go_num, by rw [HS'.out]; exact HM.out, HB.out.alloc (Nat.le_of_lt hlow) _, by simp; omega⟩
          case measure => simp [intOf] <;> omega
    · have hnk : n ≤ k := by omega
      have HF : Hid (MapIs wo Try.prog 39 Fr.v iv w.heap.size (countsL l) ∧ Below w.heap.size w wo) := by
        unfold Hid
        have := HR.out
        unfold CntRel at this
        rw [List.take_of_length_le (by rw [HN.out]; exact hnk)] at this
        exact ⟨this.1, this.2.1⟩
      go_wp2
      go_ret
      exact ⟨rfl, HF.out⟩
end Go.Proofs.Ytafididfgljfcaa
