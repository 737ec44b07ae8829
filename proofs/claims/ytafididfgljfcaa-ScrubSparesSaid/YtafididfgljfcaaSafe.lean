/-
  Safe, walked.
-/
import Derived.Test.YtafididfgljfcaaGrp
import Derived.Test.YtafididfgljfcaaBlT
import Derived.Deep.DeepCutAuto
namespace Go.Proofs.Ytafididfgljfcaa
open Go.RowKit
set_option linter.unusedVariables false
theorem rangeAt_map {κ β : Type} {P : Program} {kt : TypeId} {ek : κ → Value} {ev : β → Value} {M : Nat} {m : List (κ × β)} {w w' : World} {b o : Nat} {cs : List Value} (h : w.rangeAt b o cs) (h0 : ∃ c, cs[0]? = some c) (hlt : b < w.heap.size) (hm : MapIs w P kt ek ev M m) (hg : w.grownBy w' (some M)) : w'.rangeAt b o cs :=
  rangeAt_grown h hg hlt fun e => by
    have e4 : b = M := Option.some.inj e
    subst e4
    obtain ⟨c, hc⟩ := h0
    have := h 0 _ hc
    obtain ⟨es, clock, hb, _⟩ := hm
    simp [World.cell?, hb] at this
theorem quiet_look {κ α : Type} [DecidableEq κ] {P : Program} {o : Oper} {a : Act} {C : World → Prop} {w : World} {kt et t : TypeId} {ek : κ → Value} {ev : α → Value} (E : Enc P kt ek) (m x : Operand) (ho : o.op = Op.lookup t m x false) (ht : P.underlying t = some (.map kt et)) (z : Value) (hz : (zeroValue et).run P w = .ok z w)
    (b : Nat) (l : List (κ × α)) (hm : a.eval m = .map (some b)) (h : MapIs w P kt ek ev b l) (y : κ) (hx : a.eval x = ek y) {kl : Lit} (hk : keyOf P kt (ek y) = some kl) (u : α) (hu : getK l y = some u) : o.quietAt P a C w (ev u) := by
  have hrun := h.look E ht false y hk hz
  rw [hu] at hrun
  unfold Oper.quietAt execOp
  simp only [ho, hm, hx]
  simp [hrun, Result.andThen]
  exact ⟨rfl, rfl⟩
theorem eqMapS (M : Nat) (w : World) : (binOp .eql 68 (.map (some M)) (.map none)).run Try.prog w = .ok (.bool false) w := by
  simp only [binOp, Op.equal, Op.maxDepth, Sem.run_bind]
  unfold Op.equalIn
  simp [run_underlying Try.underlying68, Result.andThen]
theorem eqMapN (w : World) : (binOp .eql 68 (.map none) (.map none)).run Try.prog w = .ok (.bool true) w := by
  simp only [binOp, Op.equal, Op.maxDepth, Sem.run_bind]
  unfold Op.equalIn
  simp [run_underlying Try.underlying68, Result.andThen]
theorem Gr.key0 (g : Gr) : ∃ c, g.cs[0]? = some c := ⟨_, rfl⟩
theorem Fr.key0 (f : Fr) : ∃ c, f.cs[0]? = some c := ⟨_, rfl⟩
def SRel (w : World) (found : List (Fr × Int)) (N : Nat) (a : Option Addr) (off : Nat) (fs : List Fr) (k : Nat) (wr : World) : Prop :=
  ∃ T, bare T = (sst found (fs.take k)).2 ∧ SfRel w.heap.size w found w.heap.size N (N + 1) a off fs (sst found (fs.take k)).1 T wr
theorem bare_len (T : List (Gr × Inn)) : (bare T).length = T.length := List.length_map _
theorem wpList_map_any {κ α : Type} [DecidableEq κ] {P : Program} {w : World} {ops : Array Oper} {rest : List Oper} {o : Oper} {a : Act} {Q : Exit → Act → World → Prop}
    {kt et : TypeId} {ek : κ → Value} {ev : α → Value} (E : Enc P kt ek) (hg : o.guard = none) (m x : Operand) (t : TypeId) (hop : o.op = Op.lookup t m x false) (ht : P.underlying t = some (.map kt et)) (z : Value) (hz : (zeroValue et).run P w = .ok z w)
    (b : Nat) (l : List (κ × α)) (hm : a.eval m = .map (some b)) (h : MapIs w P kt ek ev b l) (y : κ) (hx : a.eval x = ek y) {kl : Lit} (hk : keyOf P kt (ek y) = some kl) (u : Value)
    (hu : (∃ v, getK l y = some v ∧ u = ev v) ∨ (getK l y = none ∧ u = z))
    (hK : wpList P ops Q rest (a.put o.dst u) w) : wpList P ops Q (o :: rest) a w := by
  rcases hu with ⟨v, h1, h2⟩ | ⟨h1, h2⟩
  · rw [h2] at hK; exact wpList_map_hit E hg m x t hop ht z hz b l hm h y hx hk v h1 hK
  · rw [h2] at hK; exact wpList_map_miss E hg m x t hop ht z hz b l hm h y hx hk h1 hK
/-- Behind 'if reels[g] == nil': the group is there. -/
def SafeCut (w : World) (found : List (Fr × Int)) (N : Nat) (a : Option Addr) (oF : Nat) (fs : List Fr) (n0 n4 : Nat) (s : Fr) (st : SSt) (N' : List (Gr × Int)) (T' : List (Gr × Inn)) (M : Nat) (m : List (Int × Bool)) (wx : World) : Prop :=
  SfRel w.heap.size w found w.heap.size N (N + 1) a oF fs N' T' wx ∧ wx.rangeAt n0 0 s.cs ∧ wx.rangeAt n4 0 s.group.cs ∧ n0 < wx.heap.size ∧ n4 < wx.heap.size ∧ getK T' s.group = some (M, m) ∧ m.length < maxLen ∧ sopen st s = (N', bare T')
set_option maxRecDepth 100000 in
set_option maxHeartbeats 4000000 in
theorem safe_any (l : List Sg) (fs : List Fr) (nl nf : Nat) (v vf : Value) (w : World) (hnl : l.length = nl) (hnl2 : nl ≤ 100) (hnf : fs.length = nf) (hnf2 : nf ≤ 100) (hl : IsS 14 Sg.cs w v l) (hf : IsS 9 Fr.cs w vf fs)
    (hok : ∀ s ∈ l, s.frame.Ok) (hfok : ∀ f ∈ fs, f.Ok) :
    Calls Try.prog 18 #[v, vf] w fun e w' => e = .returned (.bool (safeL l fs)) ∧ Below w.heap.size w w' := by
  have HL := Lib.hid hl
  have HOK := Lib.hid hok
  have HFOK := Lib.hid hfok
  have HNF := Lib.hid hnf
  have HNL := Lib.hid hnl
  obtain ⟨aF, oF, cF, rfl, _, hrF⟩ := hf
  have HRF : Hid (RowsAt 9 Fr.cs w aF oF fs) := hrF
  have hmm := @run_makeMap Try.prog
  rw [hnf]
  clear hl hok hfok hnf hnl hrF
  go_enter Try.func18, Try.ntmps18
  go_wp2_with fail
  refine (counts_any l nl v w HNL.out hnl2 HL.out HOK.out).mono ?_
  rintro e w1 ⟨rfl, hm1, hb1⟩
  obtain ⟨found, hfound⟩ : ∃ f, countsL l = f := ⟨_, rfl⟩
  have HSL : Hid (safeL l fs = (sst found fs).1.all fun p => decide (p.2 ≤ (((getK (sst found fs).2 p.1).getD []).length : Int))) := by unfold Hid safeL; rw [hfound]
  rw [hfound] at hm1
  have hz1 : (w1.alloc (.map #[] 0)).heap.size = w1.heap.size + 1 := by simp
  have HR0 : Hid (SRel w found w1.heap.size aF oF fs 0 ((w1.alloc (.map #[] 0)).alloc (.map #[] 0))) := by
    have hlt := hm1.lt
    refine ⟨[], rfl, (hm1.alloc _).alloc _, (MapIs.made _ _ _ _ _).alloc _, ?_, fun g p hp => (by cases hp), fun g g' p p' hp => (by cases hp), ((HRF.out.kept hb1).alloc _).alloc _, (hb1.alloc (Nat.le_of_lt hlt) _).alloc (by rw [hz1]; omega) _, Nat.le_refl _, hlt, Nat.lt_succ_self _⟩
    have := MapIs.made (w1.alloc (.map #[] 0)) Try.prog 66 Gr.v Inn.v
    rw [hz1] at this; exact this
  clear hfound hm1 hb1 HL HOK HRF
  go_wp2_with fail
  go_loopw [9, 10, 11, 12, 21] (fun v9 v10 v11 v12 i wr => ∃ k : Nat, k ≤ nf ∧ i = .int .i64 k ∧ Hid (SRel w found w1.heap.size aF oF fs k wr)) (fun _ _ _ _ i _ => nf - (intOf i).toNat)
  case atStart => exact ⟨0, Nat.zero_le _, rfl, HR0⟩
  case round =>
    clear HR0
    obtain ⟨k, hk, rfl, HR⟩ := hrel
    obtain ⟨wo, rfl⟩ : ∃ wo : World, wo = wr := ⟨_, rfl⟩
    by_cases hlt : k < nf
    · obtain ⟨s, hs⟩ : ∃ s, fs[k]? = some s := ⟨_, List.getElem?_eq_getElem (by rw [HNF.out]; exact hlt)⟩
      have hokS : s.Ok := HFOK.out s (List.mem_of_getElem? hs)
      obtain ⟨T, hT, HS0⟩ := HR.out
      have hHS0 := Lib.hid HS0
      obtain ⟨bA, rfl, hbA, hrA⟩ := HS0.rows k s hs
      have HRA := Lib.hid hrA
      have HS := Lib.hid (sst_snoc found fs k s hs)
      have hlen := sst_len1 found (fs.take k)
      have hlk : (fs.take k).length = k := by rw [List.length_take, HNF.out]; omega
      obtain ⟨st, hst⟩ : ∃ st, sst found (fs.take k) = st := ⟨_, rfl⟩
      rw [hst] at hT HS HS0 hHS0 hlen
      obtain ⟨Nl, Rl⟩ := st
      simp only at hT hHS0 hlen
      subst hT
      rw [hlk] at hlen
      have HLEN := Lib.hid hlen
      have HT0 : Hid (SfRel w.heap.size w found w.heap.size w1.heap.size (w1.heap.size + 1) (some ⟨bA, oF, none⟩) oF fs Nl T wo) := hHS0
      obtain ⟨lit, hlit⟩ := hokS.key
      have HKEY := Lib.hid hlit
      obtain ⟨litg, hlitg⟩ := hokS.group.key
      have HGKEY := Lib.hid hlitg
      have HRKEY := Lib.hid (key_i64 hokS.reel)
      clear HS0 hHS0 hrA hokS hlit hlitg hlen hlk hst HR hs
      go_wp2_with first
        | refine wpList_load_mid rfl 39 _ rfl bA _ rfl s.cs _ HRA.out Try.underlying39 rfl Try.size39 ?_
        | refine wpList_store_b rfl 39 _ _ rfl wo _ s.cs wo.heap.size rfl rfl rfl rfl Try.size39 rfl s.ones ?_
        | refine wpList_load_s1 rfl 39 _ rfl _ wo s.cs _ wo.heap.size rfl rfl rfl Try.underlying39 rfl Try.size39 ?_
      refine (groupOf_any s _).mono ?_
      rintro e w4 ⟨rfl, hb4⟩
      obtain ⟨n0, hn0⟩ : ∃ n, wo.heap.size = n := ⟨_, rfl⟩
      obtain ⟨n4, hn4⟩ : ∃ n, w4.heap.size = n := ⟨_, rfl⟩
      have hz0 : (wo.alloc (.cells s.cs.toArray 39)).heap.size = n0 + 1 := by simp [hn0]
      obtain ⟨w5, hw5⟩ : ∃ w5, w4.alloc (.cells s.group.cs.toArray 66) = w5 := ⟨_, rfl⟩
      have h04 : n0 < n4 := by have := hb4.size; omega
      have hb05 : Below wo.heap.size wo w5 := by
        rw [← hw5]
        exact (((Below.refl _ _).alloc (Nat.le_refl _) _).trans (hb4.mono (by omega))).alloc (by omega) _
      have hz5 : w5.heap.size = n4 + 1 := by rw [← hw5]; simp [hn4]
      have HS5 := Lib.hid (HT0.out.kept hb05)
      have HF5 : Hid (w5.rangeAt n0 0 s.cs) := by
        unfold Hid
        rw [← hw5, ← hn0]
        exact World.rangeAt_alloc (rangeAt_kept (box_range wo s.cs 39) hb4 (by simp)) _
      have HG5 : Hid (w5.rangeAt n4 0 s.group.cs) := by
        unfold Hid
        rw [← hw5, ← hn4]; exact box_range w4 s.group.cs 66
      have HW5 := Lib.hid hw5
      have hn45 : n4 < w5.heap.size := by omega
      have hn05 : n0 < w5.heap.size := by omega
      rw [hn0]
      clear hb4 hb05 hw5
      obtain ⟨mo, bn, hmv, hbn⟩ : ∃ (mo : Option Nat) (bn : Bool), ((∃ v, getK T s.group = some v ∧ mo = some v.1 ∧ bn = false) ∨ (getK T s.group = none ∧ mo = none ∧ bn = true)) ∧ ∀ w, (binOp .eql 68 (.map mo) (.map none)).run Try.prog w = .ok (.bool bn) w := by
        cases hq : getK T s.group with
        | some p => exact ⟨some p.1, false, Or.inl ⟨p, rfl, rfl, rfl⟩, eqMapS p.1⟩
        | none => exact ⟨none, true, Or.inr ⟨rfl, rfl, rfl⟩, eqMapN⟩
      have HMV := Lib.hid hmv
      have HMU : Hid ((∃ v, getK T s.group = some v ∧ Value.map mo = Inn.v v) ∨ (getK T s.group = none ∧ Value.map mo = .map none)) := by
        rcases hmv with ⟨v, h1, h2, _⟩ | ⟨h1, h2, _⟩
        · exact Or.inl ⟨v, h1, by rw [h2]; rfl⟩
        · exact Or.inr ⟨h1, by rw [h2]⟩
      clear hmv
      go_upto_if 30 with (first
        | (refine wpList_store_b rfl 66 _ _ rfl w4 _ s.group.cs n4 rfl rfl hn4 rfl Try.size66 rfl (Gr.ones _) ?_; rw [HW5.out])
        | refine wpList_load_mid rfl 66 _ rfl n4 0 rfl s.group.cs _ HG5.out Try.underlying66 rfl Try.size66 ?_
        | (at_lookup; refine wpList_map_any encG rfl _ _ 64 rfl Try.underlying64 (.map none) (Try.zeroValue68 _) (w1.heap.size + 1) T rfl HS5.out.outer s.group rfl HGKEY.out (.map mo) HMU.out ?_))
      go_cut [10] (fun v10 wx => v10 = .pointer (some ⟨n4, 0, none⟩) ∧ ∃ N' T' M m, Hid (SafeCut w found w1.heap.size (some ⟨bA, oF, none⟩) oF fs n0 n4 s (Nl, bare T) N' T' M m wx))
      case first =>
        rcases HMV.out with ⟨⟨M5, m5⟩, hgk, rfl, rfl⟩ | ⟨hgk, rfl, rfl⟩
        · have hml : m5.length < maxLen := by
            have := HLEN.out.2.2 s.group m5 (by rw [getK_bare, hgk]; rfl)
            unfold maxLen; omega
          have hop5 : sopen (Nl, bare T) s = (Nl, bare T) := by
            unfold sopen
            simp only
            rw [getK_bare, hgk]; rfl
          have HC5 : Hid (SafeCut w found w1.heap.size (some ⟨bA, oF, none⟩) oF fs n0 n4 s (Nl, bare T) Nl T M5 m5 w5) := ⟨HS5.out, HF5.out, HG5.out, hn05, hn45, hgk, hml, hop5⟩
          clear hgk hml hop5 HMV HMU
          go_wp2_with fail
          go_meet
          exact ⟨rfl, _, _, _, _, HC5⟩
        · clear HMV HMU hbn
          have hmap : Hid (RowsAt 9 Fr.cs w5 (some ⟨bA, oF, none⟩) oF fs) := HS5.out.rows
          have hTk : (bare T).length ≤ k := HLEN.out.2.1
          rw [bare_len] at hTk
          have hNk : Nl.length ≤ k := HLEN.out.1
          have hR5 : w1.heap.size + 1 < w5.heap.size := HS5.out.outer.lt
          obtain ⟨M7, hM7⟩ : ∃ M, n4 + 1 = M := ⟨_, rfl⟩
          have HM7 := Lib.hid hM7
          have HT7 : Hid (∀ w6, MapIs w6 Try.prog 66 Gr.v Inn.v (w1.heap.size + 1) (putK T s.group (M7, [])) → (w5.alloc (.map #[] 0)).grownBy w6 (some (w1.heap.size + 1)) →
              SfRel w.heap.size w found w.heap.size w1.heap.size (w1.heap.size + 1) (some ⟨bA, oF, none⟩) oF fs Nl (putK T s.group (M7, [])) w6 ∧ w6.rangeAt n0 0 s.cs ∧ w6.rangeAt n4 0 s.group.cs ∧ w5.heap.size ≤ w6.heap.size) := by
            intro w6 hm6 hg6
            have h5 := HS5.out.kept ((Below.refl _ _).alloc (Nat.le_refl _) (.map #[] 0))
            have hmade := MapIs.made w5 Try.prog 3 iv Value.bool
            rw [hz5, hM7] at hmade
            refine ⟨h5.turnOuter hm6 hg6 hmade (by omega) (fun g' p hp => ?_), rangeAt_map (World.rangeAt_alloc HF5.out _) s.key0 (by simp; omega) h5.outer hg6, rangeAt_map (World.rangeAt_alloc HG5.out _) s.group.key0 (by simp; omega) h5.outer hg6, Nat.le_trans (by simp) hg6.size⟩
            have := (HS5.out.inner g' p hp).1.lt
            omega
          obtain ⟨T7, hT7⟩ : ∃ T7, putK T s.group (M7, []) = T7 := ⟨_, rfl⟩
          have HK7 : Hid (getK T7 s.group = some (M7, [])) := by unfold Hid; rw [← hT7, getK_put, if_pos rfl]
          have HBT : Hid (bare T7 = putK (bare T) s.group []) := by unfold Hid; rw [← hT7, bare_put]
          have HOP : Hid (sopen (Nl, bare T) s = (putK Nl s.group (needOf s), bare T7)) := by
            unfold Hid sopen
            simp only
            rw [getK_bare, hgk, HBT.out]; rfl
          have HML7 : Hid (([] : List (Int × Bool)).length < maxLen) := by unfold Hid maxLen; simp
          obtain ⟨m7, hm7⟩ : ∃ m, ([] : List (Int × Bool)) = m := ⟨_, rfl⟩
          rw [hm7] at HK7 HML7
          clear hm7
          have hlT : T.length < maxLen := by unfold maxLen; omega
          have hlN : Nl.length < maxLen := by unfold maxLen; omega
          have hlN1 : (putK Nl s.group (1 : Int)).length < maxLen := by
            have := putK_len Nl s.group (1 : Int)
            unfold maxLen; omega
          have HlT := Lib.hid hlT
          have HlN := Lib.hid hlN
          have HlN1 := Lib.hid hlN1
          have HGK := Lib.hid hgk
          have HTE := Lib.hid hT7
          clear hgk hlT hlN hlN1 hmap hM7 hT7
          by_cases hk66 : s.kind = 66
          · have HOP8 : Hid (sopen (Nl, bare T) s = (putK Nl s.group s.data, bare T7)) := by
              unfold Hid; rw [HOP.out]; unfold needOf; rw [if_pos hk66]
            obtain ⟨N8, hN8⟩ : ∃ N8, putK Nl s.group s.data = N8 := ⟨_, rfl⟩
            rw [hN8] at HOP8
            have HN8 := Lib.hid hN8
            have HK66 := Lib.hid hk66
            clear hk66 hN8 HOP
            go_wp2_with (first
              | refine wpList_load_mid rfl 66 _ rfl n4 0 rfl s.group.cs _ HG5.out Try.underlying66 rfl Try.size66 ?_
              | (at_mapUpdate; refine wpList_map_store encG rfl _ _ _ 64 rfl Try.underlying64 (w1.heap.size + 1) T rfl (HS5.out.outer.alloc _) HlT.out s.group (M7, []) rfl (by rw [← HM7.out]; rfl) HGKEY.out ?_; intro w6 hm6 hg6; have HQ6 := Lib.hid (HT7.out w6 hm6 hg6); clear hm6 hg6; rw [HTE.out] at HQ6; have hn46 : n4 < w6.heap.size := Nat.lt_of_lt_of_le hn45 HQ6.out.2.2.2; have hn06 : n0 < w6.heap.size := Nat.lt_trans h04 hn46)
              | refine wpList_load_mid rfl 66 _ rfl n4 0 rfl s.group.cs _ HQ6.out.2.2.1 Try.underlying66 rfl Try.size66 ?_
              | (at_mapUpdate; refine wpList_map_store encG rfl _ _ _ 63 rfl Try.underlying63 w1.heap.size Nl rfl HQ6.out.1.need HlN.out s.group (1 : Int) rfl rfl HGKEY.out ?_; intro w7 hm7 hg7; have HS7 := Lib.hid (HQ6.out.1.turnNeed hm7 hg7); have HF7 := Lib.hid (rangeAt_map HQ6.out.2.1 s.key0 hn06 HQ6.out.1.need hg7); have HG7 := Lib.hid (rangeAt_map HQ6.out.2.2.1 s.group.key0 hn46 HQ6.out.1.need hg7); have hn47 : n4 < w7.heap.size := Nat.lt_of_lt_of_le hn46 hg7.size; have hn07 : n0 < w7.heap.size := Nat.lt_trans h04 hn47; clear hm7 hg7)
              | refine wpList_load_at rfl 3 _ rfl Try.isAgg3 ⟨n0, 0, none⟩ (.int .i64 66) rfl (by rw [← HK66.out]; exact HF7.out 0 _ rfl) ?_
              | refine wpList_load_mid rfl 66 _ rfl n4 0 rfl s.group.cs _ HG7.out Try.underlying66 rfl Try.size66 ?_
              | refine wpList_load_at rfl 3 _ rfl Try.isAgg3 ⟨n0, 5, none⟩ (.int .i64 s.data) rfl (HF7.out 5 _ rfl) ?_
              | (at_mapUpdate; refine wpList_map_store encG rfl _ _ _ 63 rfl Try.underlying63 w1.heap.size (putK Nl s.group (1 : Int)) rfl HS7.out.need HlN1.out s.group s.data rfl rfl HGKEY.out ?_; intro w8 hm8 hg8; rw [putK_twice, HN8.out] at hm8; have HS8 := Lib.hid (HS7.out.turnNeed hm8 hg8); have HF8 := Lib.hid (rangeAt_map HF7.out s.key0 hn07 HS7.out.need hg8); have HG8 := Lib.hid (rangeAt_map HG7.out s.group.key0 hn47 HS7.out.need hg8); have hn48 : n4 < w8.heap.size := Nat.lt_of_lt_of_le hn47 hg8.size; have hn08 : n0 < w8.heap.size := Nat.lt_trans h04 hn48; clear hm8 hg8))
            have HC5 : Hid (SafeCut w found w1.heap.size (some ⟨bA, oF, none⟩) oF fs n0 n4 s (Nl, bare T) N8 T7 M7 m7 w8) := ⟨HS8.out, HF8.out, HG8.out, hn08, hn48, HK7.out, HML7.out, HOP8.out⟩
            go_meet
            exact ⟨rfl, _, _, _, _, HC5⟩
          · have HOP7 : Hid (sopen (Nl, bare T) s = (putK Nl s.group 1, bare T7)) := by
              unfold Hid; rw [HOP.out]; unfold needOf; rw [if_neg hk66]
            obtain ⟨N7, hN7⟩ : ∃ N7, putK Nl s.group 1 = N7 := ⟨_, rfl⟩
            rw [hN7] at HOP7
            have HN7 := Lib.hid hN7
            have hkb : (s.kind == 66) = false := by simp [hk66]
            clear hN7 HOP
            go_wp2_with (first
              | refine wpList_load_mid rfl 66 _ rfl n4 0 rfl s.group.cs _ HG5.out Try.underlying66 rfl Try.size66 ?_
              | (at_mapUpdate; refine wpList_map_store encG rfl _ _ _ 64 rfl Try.underlying64 (w1.heap.size + 1) T rfl (HS5.out.outer.alloc _) HlT.out s.group (M7, []) rfl (by rw [← HM7.out]; rfl) HGKEY.out ?_; intro w6 hm6 hg6; have HQ6 := Lib.hid (HT7.out w6 hm6 hg6); clear hm6 hg6; rw [HTE.out] at HQ6; have hn46 : n4 < w6.heap.size := Nat.lt_of_lt_of_le hn45 HQ6.out.2.2.2; have hn06 : n0 < w6.heap.size := Nat.lt_trans h04 hn46)
              | refine wpList_load_mid rfl 66 _ rfl n4 0 rfl s.group.cs _ HQ6.out.2.2.1 Try.underlying66 rfl Try.size66 ?_
              | (at_mapUpdate; refine wpList_map_store encG rfl _ _ _ 63 rfl Try.underlying63 w1.heap.size Nl rfl HQ6.out.1.need HlN.out s.group (1 : Int) rfl rfl HGKEY.out ?_; intro w7 hm7 hg7; rw [HN7.out] at hm7; have HS7 := Lib.hid (HQ6.out.1.turnNeed hm7 hg7); have HF7 := Lib.hid (rangeAt_map HQ6.out.2.1 s.key0 hn06 HQ6.out.1.need hg7); have HG7 := Lib.hid (rangeAt_map HQ6.out.2.2.1 s.group.key0 hn46 HQ6.out.1.need hg7); have hn47 : n4 < w7.heap.size := Nat.lt_of_lt_of_le hn46 hg7.size; have hn07 : n0 < w7.heap.size := Nat.lt_trans h04 hn47; clear hm7 hg7)
              | refine wpList_load_at rfl 3 _ rfl Try.isAgg3 ⟨n0, 0, none⟩ (.int .i64 s.kind) rfl (HF7.out 0 _ rfl) ?_)
            have HC5 : Hid (SafeCut w found w1.heap.size (some ⟨bA, oF, none⟩) oF fs n0 n4 s (Nl, bare T) N7 T7 M7 m7 w7) := ⟨HS7.out, HF7.out, HG7.out, hn07, hn47, HK7.out, HML7.out, HOP7.out⟩
            go_meet
            exact ⟨rfl, _, _, _, _, HC5⟩
      case rest =>
        clear HMV HMU hbn HG5 HF5 HS5 HW5 hn45 hn05 HT0
        obtain ⟨rfl, N5, T5, M5, m5, HC5⟩ := hcut
        obtain ⟨w5, rfl⟩ : ∃ x : World, x = wc := ⟨_, rfl⟩
        have HS5 := Lib.hid HC5.out.1
        have HF5 := Lib.hid HC5.out.2.1
        have HG5 := Lib.hid HC5.out.2.2.1
        have hn05 := HC5.out.2.2.2.1
        have hn45 := HC5.out.2.2.2.2.1
        have HK5 := Lib.hid HC5.out.2.2.2.2.2.1
        have HML5 := Lib.hid HC5.out.2.2.2.2.2.2.1
        have HOP5 := Lib.hid HC5.out.2.2.2.2.2.2.2
        clear HC5
        cases hgf : getK found s with
        | none =>
          have HGF := Lib.hid hgf
          have HS' : Hid (SRel w found w1.heap.size (some ⟨bA, oF, none⟩) oF fs (k + 1) w5) := by
            refine ⟨T5, ?_, ?_⟩
            · rw [HS.out]; unfold sstep smark; rw [hgf, HOP5.out]
            · rw [HS.out]; unfold sstep smark; rw [hgf, HOP5.out]; exact HS5.out
          clear hgf
          go_wp2_with first
            | refine wpList_load_mid rfl 39 _ rfl n0 0 rfl s.cs _ HF5.out Try.underlying39 rfl Try.size39 ?_
            | (at_lookup; refine wpList_map_ok_miss encF rfl _ _ 53 rfl Try.underlying53 (iv 0) (Try.zeroValue3 _) w.heap.size found rfl HS5.out.found s rfl HKEY.out HGF.out ?_)
          go_roundw
          case rel => exact ⟨k + 1, by omega, by go_num, HS'.out⟩
          case measure => simp [intOf] <;> omega
        | some c =>
          have HGF := Lib.hid hgf
          have HSS : Hid (sst found (fs.take (k + 1)) = (N5, putK (bare T5) s.group (putK m5 s.reel true))) := by
            unfold Hid
            rw [HS.out]; unfold sstep smark; rw [hgf, HOP5.out]
            simp only
            rw [getK_bare, HK5.out]; rfl
          clear hgf
          go_wp2_with first
            | refine wpList_load_mid rfl 39 _ rfl n0 0 rfl s.cs _ HF5.out Try.underlying39 rfl Try.size39 ?_
            | (at_lookup; refine wpList_map_ok_hit encF rfl _ _ 53 rfl Try.underlying53 (iv 0) (Try.zeroValue3 _) w.heap.size found rfl HS5.out.found s rfl HKEY.out c HGF.out ?_)
          refine wp_region_class_tail 5 (C := fun w' : World => Below w5.heap.size w5 w') (by kernel_rfl) (by kernel_rfl) ((Below.refl _ _).drew) ?_
          simp only [List.take_succ_cons, List.take_zero, List.drop_succ_cons, List.drop_zero]
          refine WQ.out ?_
          repeat
            (refine WQ.step (fun K hK => ?_)
             first
             | (refine bl_skip (by rfl) ?_; go_simp; refine hK _ ?_; clear hK K)
             | (refine bl_want (by rfl) ?_
                apply Exists.intro
                apply And.intro
                next =>
                  intro w' hw'
                  first
                    | exact quiet_load 66 _ rfl n4 0 s.group.cs _ rfl (rangeAt_kept HG5.out hw' hn45) Try.underlying66 rfl Try.size66
                    | exact quiet_load1 3 _ rfl Try.isAgg3 ⟨n0, 1, none⟩ (.int .i64 s.reel) rfl (rangeAt_kept HF5.out hw' hn05 1 _ rfl)
                    | exact quiet_look encG _ _ rfl Try.underlying64 (.map none) (Try.zeroValue68 _) (w1.heap.size + 1) T5 rfl (HS5.out.outer.kept hw') s.group rfl HGKEY.out (M5, m5) HK5.out
                    | (unfold Oper.quietAt; go_simp; exact rfl)
                go_simp
                refine hK _ ?_
                clear hK K))
          refine WQ.nil ?_
          intro w9 hb9
          have HS9 := Lib.hid (HS5.out.kept hb9)
          clear hb9
          unfold Inn.v
          go_wp2_with first
            | (at_mapUpdate; refine wpList_map_store (enc_int Try.underlying3) rfl _ _ _ 68 rfl Try.underlying68 M5 m5 rfl (HS9.out.inner _ _ HK5.out).1 HML5.out s.reel true rfl rfl HRKEY.out ?_; intro wA hmA hgA)
          have HSA : Hid (SRel w found w1.heap.size (some ⟨bA, oF, none⟩) oF fs (k + 1) wA) := by
            refine ⟨putK T5 s.group (M5, putK m5 s.reel true), ?_, ?_⟩
            · rw [HSS.out, bare_put]
            · rw [HSS.out]; exact HS9.out.turnInner HK5.out hmA hgA
          clear hmA hgA
          go_roundw
          case rel => exact ⟨k + 1, by omega, by go_num, HSA.out⟩
          case measure => simp [intOf] <;> omega
    · have hnk : nf ≤ k := by omega
      obtain ⟨T, hT, HS0⟩ := HR.out
      have hfk : fs.take k = fs := List.take_of_length_le (by rw [HNF.out]; omega)
      rw [hfk] at hT HS0
      have hkeys := sst_keys found fs
      have hlen := sst_len1 found fs
      obtain ⟨st, hst⟩ : ∃ st, sst found fs = st := ⟨_, rfl⟩
      rw [hst] at hT HS0 hkeys hlen
      have HSL2 : Hid (safeL l fs = st.1.all fun p => decide (p.2 ≤ (((getK st.2 p.1).getD []).length : Int))) := by unfold Hid; rw [← hst]; exact HSL.out
      obtain ⟨Nl, Rl⟩ := st
      simp only at hT HS0 hkeys
      subst hT
      have HS5 := Lib.hid HS0
      have HKEYS := Lib.hid hkeys
      have HTM : Hid (∀ g p, getK T g = some p → p.2.length < maxLen) := by
        intro g p hp
        have := hlen.2.2 g p.2 (by simp only; rw [getK_bare, hp]; rfl)
        rw [HNF.out] at this
        unfold maxLen; omega
      obtain ⟨r, hr⟩ : ∃ r, wo.heap.size = r := ⟨_, rfl⟩
      clear HS0 hkeys hlen hst HR hmm HFOK HSL
      go_wp2_with first
        | (at_range; refine wpList_range_is rfl _ rfl Try.underlying63 w1.heap.size Nl (SGood (Nl, bare T)) rfl HS5.out.need ?_; intro w2 cnt hR2 hg2 hs2; rw [hr] at hR2; rw [hr]; go_frame)
      have HR2 : Hid (RngIs w2 Try.prog 66 Gr.v iv w1.heap.size r Nl (SGood (Nl, bare T)) cnt) := hR2
      have HT2 : Hid (MapIs w2 Try.prog 66 Gr.v Inn.v (w1.heap.size + 1) T) := HS5.out.outer.grown hg2 (by simp)
      have hN1r : w1.heap.size + 1 < r := by rw [← hr]; exact HS5.out.outer.lt
      have hwr : w.heap.size ≤ r := by rw [← hr]; exact HS5.out.below.size
      have HB2 : Hid (Below w.heap.size w w2) := HS5.out.below.grown hg2 HS5.out.below.size (fun k e => by cases e)
      have HI2 : Hid (∀ g p, getK T g = some p → MapIs w2 Try.prog 3 iv Value.bool p.1 p.2 ∧ p.1 < r) := fun g p hp => ⟨(HS5.out.inner g p hp).1.grown hg2 (by simp), by rw [← hr]; exact (HS5.out.inner g p hp).1.lt⟩
      clear hR2 hg2
      go_loopw [13, 14] (fun _ _ wr => ∃ cn, Hid (RngIs wr Try.prog 66 Gr.v iv w1.heap.size r Nl (SGood (Nl, bare T)) cn) ∧ Hid (MapIs wr Try.prog 66 Gr.v Inn.v (w1.heap.size + 1) T) ∧ Hid (∀ g p, getK T g = some p → MapIs wr Try.prog 3 iv Value.bool p.1 p.2 ∧ p.1 < r) ∧ Hid (Below w.heap.size w wr)) (fun _ _ wr => wr.rangeLeft w1.heap.size r)
      case atStart => exact ⟨cnt, HR2, HT2, HI2, HB2⟩
      case round =>
        clear HR2 HT2 HI2 HB2
        obtain ⟨cn, HR3, HT3, HI3, HB3⟩ := hrel
        go_wp2_with first
          | (at_next; refine wpList_next_is rfl _ rfl w1.heap.size r Nl _ cn rfl HR3.out ?_ ?_)
        · intro h0 hall
          go_wp2_with fail
          go_ret
          refine ⟨?_, HB3.out⟩
          rw [HSL2.out]
          have : (Nl.all fun p => decide (p.2 ≤ (((getK (bare T) p.1).getD []).length : Int))) = true := List.all_eq_true.2 fun p hp => decide_eq_true (hall p.1 p.2 hp)
          exact congrArg (fun b => Ending.returned (.bool b)) this.symm
        · intro g n hp w4 cn4 hrg4 hm4 hlt4 hleft4 hg4 hs4 hen4
          have hgp : ∃ q, getK T g = some q := by
            have hmem : g ∈ Nl.map (·.1) := List.mem_map.2 ⟨_, hp, rfl⟩
            rw [← getK_mem] at hmem
            obtain ⟨n', hn'⟩ := hmem
            have h1 := HKEYS.out g n' hn'
            rw [getK_bare] at h1
            cases hq : getK T g with
            | some q => exact ⟨q, rfl⟩
            | none => rw [hq] at h1; exact absurd rfl h1
          obtain ⟨⟨M, m⟩, hq⟩ := hgp
          have HQ := Lib.hid hq
          have hgetD : ((getK (bare T) g).getD []).length = m.length := by rw [getK_bare, hq]; rfl
          have HGD := Lib.hid hgetD
          have HP := Lib.hid hp
          have HT4 : Hid (MapIs w4 Try.prog 66 Gr.v Inn.v (w1.heap.size + 1) T) := HT3.out.grown hg4 (fun e => by have := Option.some.inj e; omega)
          have HB4 : Hid (Below w.heap.size w w4) := bd_grown HB3.out hg4 HB3.out.size hwr
          have HIn4 : Hid (∀ g p, getK T g = some p → MapIs w4 Try.prog 3 iv Value.bool p.1 p.2 ∧ p.1 < r) := fun g p hp => ⟨(HI3.out g p hp).1.grown hg4 (fun e => by have := Option.some.inj e; have := (HI3.out g p hp).2; omega), (HI3.out g p hp).2⟩
          have HG4 := Lib.hid hrg4
          have HL4 := Lib.hid hlt4
          obtain ⟨litg, hlitg⟩ : ∃ lit, keyOf Try.prog 66 (Gr.v g) = some lit := by
            obtain ⟨_, _, _, _, _, _, h4⟩ := hm4
            exact h4 (g, n) hp
          have HGL := Lib.hid hlitg
          have hlow4 : w.heap.size ≤ w4.heap.size := HB4.out.size
          have HML := Lib.hid (HIn4.out g (M, m) hq).1
          clear hp hrg4 hm4 hlt4 hleft4 hg4 hs4 hq hgetD hlitg
          by_cases hc : ((m.length : Nat) : Int) < n
          · have hfalse : Hid (safeL l fs = false) := by
              unfold Hid
              rw [HSL2.out]
              refine (List.all_eq_false).2 ⟨(g, n), HP.out, ?_⟩
              simp only [HGD.out]
              simpa using hc
            go_wp2_with first
              | refine wpList_store_b rfl 66 _ _ rfl w4 _ g.cs w4.heap.size rfl rfl rfl rfl Try.size66 rfl (Gr.ones _) ?_
              | refine wpList_load_mid rfl 66 _ rfl w4.heap.size 0 rfl g.cs _ (box_range w4 g.cs 66) Try.underlying66 rfl Try.size66 ?_
              | (at_lookup; refine wpList_map_hit encG rfl _ _ 64 rfl Try.underlying64 (.map none) (Try.zeroValue68 _) (w1.heap.size + 1) T rfl (HT4.out.alloc _) g rfl HGL.out (M, m) HQ.out ?_; simp only [Inn.v])
              | refine wpList_map_len rfl _ 68 rfl Try.underlying68 M m rfl (HML.out.alloc _) ?_
            go_ret
            exact ⟨by rw [hfalse.out]; rfl, HB4.out.alloc hlow4 _⟩
          · have hgood : Hid (SGood (Nl, bare T) (g, n)) := by
              show n ≤ (((getK (bare T) g).getD []).length : Int)
              rw [HGD.out]; omega
            go_wp2_with first
              | refine wpList_store_b rfl 66 _ _ rfl w4 _ g.cs w4.heap.size rfl rfl rfl rfl Try.size66 rfl (Gr.ones _) ?_
              | refine wpList_load_mid rfl 66 _ rfl w4.heap.size 0 rfl g.cs _ (box_range w4 g.cs 66) Try.underlying66 rfl Try.size66 ?_
              | (at_lookup; refine wpList_map_hit encG rfl _ _ 64 rfl Try.underlying64 (.map none) (Try.zeroValue68 _) (w1.heap.size + 1) T rfl (HT4.out.alloc _) g rfl HGL.out (M, m) HQ.out ?_; simp only [Inn.v])
              | refine wpList_map_len rfl _ 68 rfl Try.underlying68 M m rfl (HML.out.alloc _) ?_
            go_roundw
            case rel => exact ⟨cn4, (HG4.out hgood.out).alloc _, HT4.out.alloc _, fun g p hp => ⟨(HIn4.out g p hp).1.alloc _, (HIn4.out g p hp).2⟩, HB4.out.alloc hlow4 _⟩
            case measure => rw [((HG4.out hgood.out).alloc _).left_eq, HR3.out.left_eq]; exact HL4.out
end Go.Proofs.Ytafididfgljfcaa
