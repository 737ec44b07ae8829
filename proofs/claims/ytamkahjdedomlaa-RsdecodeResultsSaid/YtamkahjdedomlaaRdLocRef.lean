/-
  The walks of the reference's Locate, Radius and Same.
-/
import Derived.Test.YtamkahjdedomlaaDk6
namespace Go.Proofs.Ytamkahjdedomlaa
open Go.RowKit
set_option linter.unusedVariables false

theorem rlocate_bad (a b : ByteArray) (h : a.size ≠ b.size) (w : World) : Calls Try.prog 11 #[.string a, .string b] w fun e w' => e = .returned (.tuple #[.slice none 0 0, .int .i64 1]) ∧ w = w' := by
  have hne : ((a.size : Int) == (b.size : Int)) = false := by rw [beq_eq_false_iff_ne]; omega
  have hne' : ((a.size : Int) != (b.size : Int)) = true := by rw [bne, hne]; rfl
  go_enter Try.func11, Try.ntmps11
  go_wp2
  go_ret2
  exact ⟨rfl, rfl⟩
set_option maxRecDepth 100000 in
set_option maxHeartbeats 1000000 in
theorem rlocate_any (a b : ByteArray) (n : Nat) (ha : a.size = n) (hb : b.size = n) (hz : n ≤ 1000) (w : World) :
    Calls Try.prog 11 #[.string a, .string b] w fun e w' => ∃ v', e = .returned (.tuple #[v', .int .i64 0]) ∧ SlI w' w.heap.size v' (natI (diffs a.data.toList b.data.toList)) ∧ Below w.heap.size w w' := by
  obtain ⟨l, hl⟩ : ∃ l, a.data.toList = l := ⟨_, rfl⟩
  obtain ⟨m, hm⟩ : ∃ m, b.data.toList = m := ⟨_, rfl⟩
  have hll : l.length = n := by rw [← hl, ← ha]; rfl
  have HA : Hid (∀ k (h : k < a.size), a[k] = l[k]?.getD 0) := by
    intro k h
    rw [← hl, Array.getElem?_toList, Array.getElem?_eq_getElem (by exact h)]; rfl
  have HB : Hid (∀ k (h : k < b.size), b[k] = m[k]?.getD 0) := by
    intro k h
    rw [← hm, Array.getElem?_toList, Array.getElem?_eq_getElem (by exact h)]; rfl
  rw [hl, hm]
  have HD : Hid (difN l m n = diffs l m) := by rw [← hll]; exact difN_diffs l m
  have h1 : ((a.size : Int) == (b.size : Int)) = true := by rw [beq_iff_eq]; omega
  have h2 : ((a.size : Int) != (b.size : Int)) = false := by rw [bne, h1]; rfl
  have hza : a.size ≤ 1000 := by omega
  have HLN := Lib.hid ha
  have HLM := Lib.hid hb
  clear hl hm hll ha hb
  go_enter Try.func11, Try.ntmps11
  go_wp2
  go_loopw [6, 7] (fun v i wr => ∃ k : Nat, k ≤ a.size ∧ i = .int .i64 k ∧ Hid (wr.ownsRow w.heap.size 3 1 v (difN l m k).length ((natI (difN l m k)).map i64v)) ∧ Below w.heap.size w wr) (fun _ i _ => a.size - (intOf i).toNat)
  case atStart => exact ⟨0, Nat.zero_le _, rfl, World.ownsRow_nil _ _ _ _, Below.refl _ _⟩
  case round =>
    obtain ⟨k, hk, rfl, HO, hB⟩ := hrel
    by_cases hlt : k < a.size
    · have hltb : k < b.size := by rw [HLM.out, ← HLN.out]; exact hlt
      have hsa := HA.out k hlt
      have hsb := HB.out k hltb
      have hbz := hB.size
      have HBW := Lib.hid hB
      clear hB
      have HS : Hid (difN l m (k + 1) = if l[k]?.getD 0 = m[k]?.getD 0 then difN l m k else difN l m k ++ [k]) := rfl
      obtain ⟨x, hx⟩ : ∃ x, l[k]?.getD 0 = x := ⟨_, rfl⟩
      obtain ⟨y, hy⟩ : ∃ y, m[k]?.getD 0 = y := ⟨_, rfl⟩
      rw [hx] at hsa HS
      rw [hy] at hsb HS
      clear hx hy
      have e5 : (k : Int) < (a.size : Int) := by omega
      have e6 : (k : Int) < (b.size : Int) := by omega
      have HL := difN_len l m k
      by_cases hxy : x = y
      · subst hxy
        have HS' : Hid (difN l m (k + 1) = difN l m k) := by unfold Hid; rw [HS.out, if_pos rfl]
        clear HS
        go_wp2_with fail
        go_quiet (fail)
        go_wp2
        go_roundw
        case rel => exact ⟨k + 1, by omega, by go_num, by rw [HS'.out]; exact HO, bdN HBW.out _⟩
        case measure => simp [intOf] <;> omega
      · have HS' : Hid (difN l m (k + 1) = difN l m k ++ [k]) := by unfold Hid; rw [HS.out, if_neg hxy]
        have hne : ((x.toNat : Int) == (y.toNat : Int)) = false := u8_ne x y _ rfl hxy
        have hne' : ((x.toNat : Int) != (y.toNat : Int)) = true := by rw [bne, hne]; rfl
        clear HS hxy
        go_wp2_with fail
        go_quiet (fail)
        go_wp2_with (at_builtin; refine wpList_append_ints rfl _ _ 23 3 rfl Try.underlying23 Try.infoI64 w.heap.size _ _ _ rfl ((owns_drewN HO.out nq).alloc _) ?h1 ?h2 wr.heap.size 1 1 [(k : Int)] rfl rfl ?h3 ?h4 ?_)
        case h1 => unfold natI; rw [List.length_map]
        case h2 => simp; omega
        case h3 => exact fun i hi => ((cellsI_one (wr.drewN nq) _ _).at i hi)
        case h4 => omega
        intro v' w' hown hgr
        have hb' : Below w.heap.size w w' := (bdN HBW.out nq).trans (((Below.refl _ (wr.drewN nq)).alloc hbz _).trans (below_grown ((owns_drewN HO.out nq).alloc _) hgr (by simp; omega) (Nat.le_refl _)))
        have HO' : Hid (w'.ownsRow w.heap.size 3 1 v' (difN l m (k + 1)).length ((natI (difN l m (k + 1))).map i64v)) := by
          unfold Hid; rw [HS'.out, List.length_append]; unfold natI at hown ⊢; rw [List.map_append, List.map_append]; exact hown
        clear hown hgr
        go_wp2
        go_roundw
        case rel => exact ⟨k + 1, by omega, by go_num, HO', hb'⟩
        case measure => simp [intOf] <;> omega
    · obtain rfl : k = a.size := by omega
      go_wp2
      go_ret2
      refine ⟨_, rfl, ?_, hB⟩
      rw [← HD.out, ← HLN.out]
      exact slI_of_owns HO.out (by unfold natI; rw [List.length_map])

theorem rradius_any (p e s : Int) (w : World) (h1 : -9223372036854775808 ≤ p) (h2 : p ≤ 9223372036854775807) (h3 : -9223372036854775808 ≤ e) (h4 : e ≤ 9223372036854775807) (h5 : -9223372036854775808 ≤ s) (h6 : s ≤ 9223372036854775807) :
    Calls Try.prog 14 #[.int .i64 p, .int .i64 e, .int .i64 s] w fun r w' => r = .returned (.bool (radB p e s)) ∧ w = w' := by
  by_cases a1 : p < 1
  · have hr : radB p e s = false := by unfold radB; exact decide_eq_false (by omega)
    rw [hr]
    go_enter Try.func14, Try.ntmps14
    go_wp2
    go_ret
    exact ⟨rfl, rfl⟩
  · by_cases a2 : 64 < p
    · have hr : radB p e s = false := by unfold radB; exact decide_eq_false (by omega)
      rw [hr]
      go_enter Try.func14, Try.ntmps14
      go_wp2
      go_ret
      exact ⟨rfl, rfl⟩
    · by_cases a3 : e < 0
      · have hr : radB p e s = false := by unfold radB; exact decide_eq_false (by omega)
        rw [hr]
        go_enter Try.func14, Try.ntmps14
        go_wp2
        go_ret
        exact ⟨rfl, rfl⟩
      · by_cases a4 : s < 0
        · have hr : radB p e s = false := by unfold radB; exact decide_eq_false (by omega)
          rw [hr]
          go_enter Try.func14, Try.ntmps14
          go_wp2
          go_ret
          exact ⟨rfl, rfl⟩
        · by_cases a5 : 64 < e
          · have hr : radB p e s = false := by unfold radB; exact decide_eq_false (by omega)
            rw [hr]
            go_enter Try.func14, Try.ntmps14
            go_wp2
            go_ret
            exact ⟨rfl, rfl⟩
          · by_cases a6 : 64 < s
            · have hr : radB p e s = false := by unfold radB; exact decide_eq_false (by omega)
              rw [hr]
              go_enter Try.func14, Try.ntmps14
              go_wp2
              go_ret
              exact ⟨rfl, rfl⟩
            · have hr : radB p e s = decide (2 * e + s ≤ p) := by unfold radB; rw [decide_eq_decide]; omega
              rw [hr]
              go_enter Try.func14, Try.ntmps14
              go_wp2
              go_ret
              exact ⟨rfl, rfl⟩

theorem rsame_any (v1 v2 : Value) (l : List Int) (w : World) (h1 : RdI w v1 l) (h2 : RdI w v2 l) (hz : l.length ≤ 100000) : Calls Try.prog 12 #[v1, v2] w fun e w' => e = .returned (.bool true) ∧ Below w.heap.size w w' := by
  obtain ⟨a1, o1, c1, hv1, hf1⟩ : ∃ a1 o1 c1, v1 = .slice a1 l.length c1 ∧ ∀ i, i < l.length → ∃ b, a1 = some ⟨b, o1, none⟩ ∧ w.cell? ⟨b, o1 + i, none⟩ = some (.int .i64 (l[i]?.getD 0)) := by
    rcases h1 with ⟨a, cap, rfl, rfl⟩ | ⟨b, off, cap, e1, e2, e3⟩
    · exact ⟨a, 0, cap, rfl, fun i hi => by simp at hi⟩
    · exact ⟨_, off, cap, e1, fun i hi => ⟨b, rfl, e3 i hi⟩⟩
  obtain ⟨a2, o2, c2, hv2, hf2⟩ : ∃ a1 o1 c1, v2 = .slice a1 l.length c1 ∧ ∀ i, i < l.length → ∃ b, a1 = some ⟨b, o1, none⟩ ∧ w.cell? ⟨b, o1 + i, none⟩ = some (.int .i64 (l[i]?.getD 0)) := by
    rcases h2 with ⟨a, cap, rfl, rfl⟩ | ⟨b, off, cap, e1, e2, e3⟩
    · exact ⟨a, 0, cap, rfl, fun i hi => by simp at hi⟩
    · exact ⟨_, off, cap, e1, fun i hi => ⟨b, rfl, e3 i hi⟩⟩
  obtain ⟨n, hn⟩ : ∃ n, l.length = n := ⟨_, rfl⟩
  rw [hn] at hv1 hf1 hv2 hf2 hz
  have HF1 := Lib.hid hf1
  have HF2 := Lib.hid hf2
  subst hv1 hv2
  clear hf1 hf2 hn h1 h2
  go_enter Try.func12, Try.ntmps12
  go_wp2
  go_loopw [5] (fun i wr => ∃ k : Nat, k ≤ n ∧ i = .int .i64 k ∧ ∃ q, Hid (wr = w.drewN q)) (fun i _ => n - (intOf i).toNat)
  case atStart => exact ⟨0, Nat.zero_le _, rfl, 0, rfl⟩
  case round =>
    obtain ⟨k, hk, rfl, q, HQ⟩ := hrel
    by_cases hlt : k < n
    · obtain ⟨b1, rfl, hc1⟩ := HF1.out k hlt
      obtain ⟨b2, rfl, hc2⟩ := HF2.out k hlt
      have hc1' : wr.cell? ⟨b1, o1 + k, none⟩ = some (.int .i64 (l[k]?.getD 0)) := by rw [HQ.out]; exact hc1
      have hc2' : wr.cell? ⟨b2, o2 + k, none⟩ = some (.int .i64 (l[k]?.getD 0)) := by rw [HQ.out]; exact hc2
      obtain ⟨x, hx⟩ : ∃ x, l[k]?.getD 0 = x := ⟨_, rfl⟩
      rw [hx] at hc1' hc2'
      clear hc1 hc2 hx
      have e1 : (k : Int) < n := by omega
      go_wp2_with fail
      go_quiet (fail)
      go_wp2
      go_roundw
      case rel => exact ⟨k + 1, by omega, by go_num, q + nq, by unfold Hid; rw [HQ.out, World.drewN_drewN]⟩
      case measure => simp [intOf] <;> omega
    · have hnk : n ≤ k := by omega
      have HB : Hid (Below w.heap.size w wr) := by unfold Hid; rw [HQ.out]; exact bdN (Below.refl _ _) q
      go_wp2
      go_ret
      exact ⟨rfl, HB.out⟩
end Go.Proofs.Ytamkahjdedomlaa
