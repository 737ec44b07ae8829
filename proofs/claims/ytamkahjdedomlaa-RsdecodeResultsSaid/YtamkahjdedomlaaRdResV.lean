/-
  The reference's Decode, walked.
  The walk of the law RsdecodeResults.
-/
import Derived.Test.YtamkahjdedomlaaR8TT
import Derived.Test.YtamkahjdedomlaaR8EV
import Derived.Test.YtamkahjdedomlaaRdLocRef
namespace Go.Proofs.Ytamkahjdedomlaa
open Go.RowKit
set_option linter.unusedVariables false

theorem run_append_none {P : Program} (w : World) (base : Nat) (t ty e : TypeId) (i : TypeInfo) (size : Nat) (ht : P.underlying t = some (.slice e)) (hi : P.info? e = some i)
    (v : Value) (n : Nat) (xs : List Value) (hown : w.ownsRow base e size v n xs) (c : Nat) : (Builtin.append_ #[t, t] ty #[v, .slice none 0 c]).run P w = .ok v w := by
  rcases hown.2 with ⟨rfl, rfl⟩ | ⟨g, cap, cur, rfl, hbg, hg, hnc, hcm, hcs, htake⟩
  · simp [Builtin.append_, run_underlying ht, sizeOf, typeInfo, hi, Builtin.lenOf, Builtin.firstCells]
  · simp [Builtin.append_, run_underlying ht, sizeOf, typeInfo, hi, Builtin.lenOf, Builtin.firstCells, hnc, storeCells]
/-- append of numbers that may be none. -/
theorem wpList_append_some {P : Program} {w : World} {ops : Array Oper} {rest : List Oper} {o : Oper} {a : Act} {Q : Exit → Act → World → Prop} (hgd : o.guard = none) (s x : Operand) (t e : TypeId)
    (ho : o.op = .call { callee := .builtin .append, args := #[s, x], argTypes := #[t, t] }) (ht : P.underlying t = some (.slice e)) (h2 : (P.info? e).map (fun i => (i.zero, i.size, i.bytes)) = some (some (.int .i64 0), 1, 8))
    (base : Nat) (v : Value) (n : Nat) (L : List Int) (hs : a.eval s = v) (hown : w.ownsRow base e 1 v n (L.map i64v)) (hn : L.length = n) (hbase : base ≤ w.heap.size)
    (B : Nat) (u : Value) (m : Nat) (l : List Int) (hx : a.eval x = u) (hu : SlI w B u l) (hm : l.length = m) (hb : n + m ≤ 100000)
    (h : ∀ v' w', w'.ownsRow base e 1 v' (n + m) ((L ++ l).map i64v) → w.grownBy w' v.ownBlock → wpList P ops Q rest (a.put o.dst v') w') : wpList P ops Q (o :: rest) a w := by
  obtain ⟨i, hi, hz0, hz1, hz2⟩ := info_parts h2
  rcases hu with ⟨ad, cap, rfl, rfl⟩ | ⟨g, cap, hu1, hu2, hu3, hu4, hu5, hu6⟩
  · simp only [List.length_nil] at hm
    subst hm
    cases ad with
    | none =>
      have hrun := run_append_none (P := P) w base t o.type e i 1 ht hi v n _ hown cap
      refine wpList_plain hgd fun K hK => ?_
      unfold Oper.wp
      simp [execOp, ho, resolve, invoke, builtin, hs, hx, hrun, Result.andThen]
      exact hK _ _ (h v w (by simpa using hown) ⟨rfl, rfl, rfl, Nat.le_refl _, fun _ _ _ => rfl⟩)
    | some p =>
      refine wpList_append_own_at w hgd s x t ho base e i _ 1 8 ht hi hz0 hz1 hz2 rfl (by decide) v n (L.map i64v) hs hown p 0 cap [] hx rfl (fun j z hj => by simp at hj) (fun z hz => by simp at hz) (by unfold maxLen; omega) (by omega) hbase (fun v' w' h1 h2 _ _ => h v' w' (by simpa using h1) h2)
  · rw [hm] at hu1
    exact wpList_append_ints hgd s x t e ho ht h2 base v n L hs hown hn hbase g m cap l (hx.trans hu1) hm (fun j hj => hu6.at j hj) (by omega) h
theorem sl_cells {w : World} {B p : Nat} {v : Value} {l : List UInt8} (h : Sl w B v l) (hl : l.length = p) (h0 : 0 < p) : ∃ g c, v = .slice (some ⟨g, 0, none⟩) p c ∧ B ≤ g ∧ Cells w g l := by
  subst hl
  rcases h with ⟨a, cap, _, hl⟩ | ⟨g, cap, h1, h2, h3, h4, h5, h6⟩
  · rw [hl] at h0; simp at h0
  · exact ⟨g, cap, h1, h5, h6⟩
theorem slI_form {w : World} {B : Nat} {v : Value} {l : List Int} (h : SlI w B v l) : ∃ a c, v = .slice a l.length c := by
  rcases h with ⟨a, c, h1, h2⟩ | ⟨g, c, h1, _⟩
  · exact ⟨a, c, by rw [h1, h2]; rfl⟩
  · exact ⟨_, c, h1⟩
theorem zero_cw (c : List UInt8) (p : Nat) (h : zeroTo (synB c p) p = true) : ∀ i, i < p → horn c (F.expB i) = 0 := fun i hi => by
  have := (zeroTo_iff _ _).1 h i hi
  rwa [synB_at c p i hi] at this
theorem cw_zero (c : List UInt8) (p : Nat) (h : ∀ i, i < p → horn c (F.expB i) = 0) : zeroTo (synB c p) p = true :=
  (zeroTo_iff _ _).2 fun i hi => by rw [synB_at c p i hi]; exact h i hi
theorem lostF_yes {zs : List Int} {k : Nat} {z : Int} (hz : zs[k]?.getD 0 = z) (h : z ∈ lostF zs k) : lostF zs (k + 1) = lostF zs k := by
  simp only [lostF, hz]; rw [if_pos h]
theorem lostF_no {zs : List Int} {k : Nat} {z : Int} (hz : zs[k]?.getD 0 = z) (h : z ∉ lostF zs k) : lostF zs (k + 1) = lostF zs k ++ [z] := by
  simp only [lostF, hz]; rw [if_neg h]
set_option maxRecDepth 100000 in
set_option maxHeartbeats 4000000 in
theorem rdec_any (s : ByteArray) (W : List UInt8) (P : Int) (v : Value) (zs : List Int) (w : World) (hW : s.data.toList = W) (hs60 : s.size ≤ 60) (hP : P ≤ 16) (hPl : -9223372036854775808 ≤ P) (hE : RdI w v zs) (hzs : zs.length ≤ 40) :
    Calls Try.prog 17 #[.string s, .int .i64 P, v] w fun e w' => e = .returned (.tuple #[.string ⟨(decB W P zs).1.toArray⟩, .int .i64 (decB W P zs).2.1, .int .i64 (decB W P zs).2.2]) ∧ Below w.heap.size w w' := by
  have hWl : W.length = s.size := by rw [← hW]; rfl
  obtain ⟨D, hD⟩ : ∃ D, decB W P zs = D := ⟨_, rfl⟩
  rw [hD]
  by_cases hg : goodP W P
  · obtain ⟨n, hn⟩ : ∃ n, s.size = n := ⟨_, rfl⟩
    rw [hn] at hWl hs60
    obtain ⟨g1, g2, g3, g4⟩ := hg
    obtain ⟨p, rfl⟩ : ∃ p : Nat, P = p := ⟨P.toNat, by omega⟩
    have hp1 : 1 ≤ p := by omega
    have hp16 : p ≤ 16 := by omega
    have hpn : p ≤ n := by omega
    have HGOOD : Hid (goodP W (p : Int)) := ⟨g1, g2, g3, g4⟩
    obtain ⟨aZ, oZ, cZ, rfl, hf⟩ := hE.form
    obtain ⟨nz, hnz⟩ : ∃ nz, zs.length = nz := ⟨_, rfl⟩
    rw [hnz] at hf hzs ⊢
    have HF := Lib.hid hf
    have HNZ := Lib.hid hnz
    have HD := Lib.hid hD
    have HWL := Lib.hid hWl
    have HW := Lib.hid hW
    have HN := Lib.hid hn
    clear hf hnz hD hE hW g1 g2 g3 g4 hWl hP hPl
    go_enter Try.func17, Try.ntmps17
    have d1 : decide ((p : Int) < 1) = false := decide_eq_false (by omega)
    have d2 : decide ((64 : Int) < p) = false := decide_eq_false (by omega)
    have d3 : decide (n < p) = false := decide_eq_false (by omega)
    have d4 : decide (255 < n) = false := decide_eq_false (by omega)
    have d5 : decide ((255 : Int) < (n : Int)) = false := decide_eq_false (by omega)
    have d6 : decide ((n : Int) < (p : Int)) = false := decide_eq_false (by omega)
    go_wp2_with fail
    clear d1 d2 d3 d4 d5 d6
    go_loopw [9, 10] (fun v9 v10 wr => ∃ k : Nat, k ≤ nz ∧ v10 = .int .i64 k ∧ Hid (wr.ownsRow w.heap.size 3 1 v9 (lostF zs k).length ((lostF zs k).map i64v) ∧ Below w.heap.size w wr) ∧ Hid (∀ i, i < k → inR n (zs[i]?.getD 0))) (fun _ v10 _ => nz - (intOf v10).toNat)
    case atStart => exact ⟨0, Nat.zero_le _, rfl, ⟨World.ownsRow_nil _ _ _ _, Below.refl _ _⟩, fun i hi => by omega⟩
    case round =>
      obtain ⟨k, hk, rfl, HO, HIN⟩ := hrel
      obtain ⟨wo, rfl⟩ : ∃ x : World, x = wr := ⟨_, rfl⟩
      have hlow : w.heap.size ≤ wo.heap.size := HO.out.2.size
      by_cases hlt : k < nz
      · obtain ⟨bA, rfl, hbA, hcA⟩ := HF.out k hlt
        have hcA2 := (HO.out.2.cell (p := ⟨bA, oZ + k, none⟩) hbA).trans hcA
        obtain ⟨z, hz⟩ : ∃ z, zs[k]?.getD 0 = z := ⟨_, rfl⟩
        rw [hz] at hcA2
        have HZ := Lib.hid hz
        have hzm : z ∈ zs := by rw [← hz]; exact getD_mem (by rw [HNZ.out]; exact hlt)
        have HZM := Lib.hid hzm
        clear hcA hz hzm
        by_cases hz0 : z < 0
        · have HDe : Hid (D = ([], 0, 1)) := by rw [Hid, ← HD.out]; exact decB_range HGOOD.out z HZM.out (fun h => by have := h.1; omega)
          go_wp2_with fail
          go_ret3
          exact ⟨by rw [HDe.out]; rfl, HO.out.2⟩
        · by_cases hzn : (n : Int) ≤ z
          · have HDe : Hid (D = ([], 0, 1)) := by rw [Hid, ← HD.out]; exact decB_range HGOOD.out z HZM.out (fun h => by have := h.2; rw [HWL.out] at this; omega)
            go_wp2_with fail
            go_ret3
            exact ⟨by rw [HDe.out]; rfl, HO.out.2⟩
          · have HRd : Hid (RdI wo u9 (lostF zs k)) := (slI_of_owns HO.out.1 rfl).rd
            have HLl := Lib.hid (lostF_len zs k)
            have HIN' : Hid (∀ i, i < k + 1 → inR n (zs[i]?.getD 0)) := fun i hi => by
              by_cases e : i = k
              · rw [e, HZ.out]; exact ⟨by omega, by omega⟩
              · exact HIN.out i (by omega)
            go_wp2_with fail
            refine (has_any _ (lostF zs k) z wo HRd.out (by have := HLl.out; omega)).mono ?_
            rintro ex w2 ⟨rfl, rfl⟩
            by_cases hin : z ∈ lostF zs k
            · have hd := decide_eq_true hin
              have HS := Lib.hid (lostF_yes HZ.out hin)
              rw [hd]
              clear hd hin
              go_wp2_with fail
              go_roundw
              case rel => exact ⟨k + 1, by omega, by go_num, by rw [HS.out]; exact HO.out, HIN'.out⟩
              case measure => simp [intOf] <;> omega
            · have hd := decide_eq_false hin
              have HS := Lib.hid (lostF_no HZ.out hin)
              rw [hd]
              clear hd hin
              go_wp2_with (at_builtin; refine wpList_append_ints rfl _ _ 23 3 rfl Try.underlying23 Try.infoI64 w.heap.size u9 (lostF zs k).length (lostF zs k) rfl (HO.out.1.alloc _) rfl (by simp; omega) wo.heap.size 1 1 [z] rfl rfl (fun j hj => (cellsI_one wo z _).at j hj) (by have := HLl.out; omega) ?_; intro v' w7 ho7 hg7)
              have HO7 : Hid (w7.ownsRow w.heap.size 3 1 v' (lostF zs (k + 1)).length ((lostF zs (k + 1)).map i64v) ∧ Below w.heap.size w w7) := by
                refine ⟨?_, ownsB_grown (HO.out.2.alloc hlow _) (HO.out.1.alloc _) hg7 (by simp; omega) (Nat.le_refl _)⟩
                rw [HS.out, List.length_append]; exact ho7
              clear ho7 hg7
              go_roundw
              case rel => exact ⟨k + 1, by omega, by go_num, HO7.out, HIN'.out⟩
              case measure => simp [intOf] <;> omega
      · have hke : k = nz := by omega
        have hO := HO.out
        have hI := HIN.out
        rw [hke, ← HNZ.out] at hO hI
        have HROOM : Hid (∀ x ∈ zs, inR n x) := fun x hx => by
          obtain ⟨i, hi, rfl⟩ := List.mem_iff_getElem.1 hx
          have := hI i hi
          rwa [List.getElem?_eq_getElem hi] at this
        obtain ⟨Lo, hLo⟩ : ∃ Lo, lostF zs zs.length = Lo := ⟨_, rfl⟩
        have HLO := Lib.hid hLo
        rw [hLo] at hO
        have hLl := lostF_len zs zs.length
        have hLn := lostF_nodup zs zs.length
        have hLm : ∀ x ∈ Lo, inR n x := fun x hx => HROOM.out x ((lostF_all zs x).1 (by rw [hLo]; exact hx))
        rw [hLo] at hLl hLn
        rw [HNZ.out] at hLl
        have HLN := Lib.hid hLn
        have HLM := Lib.hid hLm
        have HSI : Hid (SlI wo w.heap.size u9 Lo) := slI_of_owns hO.1 rfl
        have HB := Lib.hid hO.2
        obtain ⟨aL, cL, rfl⟩ := slI_form HSI.out
        obtain ⟨t, ht⟩ : ∃ t, Lo.length = t := ⟨_, rfl⟩
        rw [ht] at hLl HSI ⊢
        have HT := Lib.hid ht
        have hnk : nz ≤ k := by omega
        clear hO hI hLo hLn hLm ht HO HIN hke
        by_cases hpt : p < t
        · have HDe : Hid (D = ([], 0, 11)) := by
            rw [Hid, ← HD.out]
            exact decB_over HGOOD.out (by rw [HWL.out]; exact HROOM.out) (by rw [HLO.out, HT.out]; exact hpt)
          go_wp2_with fail
          go_ret3
          exact ⟨by rw [HDe.out]; rfl, HB.out⟩
        · go_wp2_with fail
          have hrs := rsyn_ok s p hp1 (by omega) (by rw [HN.out]; exact hpn) (by rw [HN.out]; omega) wo
          rw [HW.out] at hrs
          refine hrs.mono ?_
          rintro ex w2 ⟨vS, rfl, hsl, hb2⟩
          have HSyn : Hid ((synB W p).length = p) := synB_len W p
          obtain ⟨gS, cS, rfl, hgS, hcS⟩ := sl_cells hsl HSyn.out hp1
          have HCS := Lib.hid hcS
          have HSI2 := Lib.hid (HSI.out.kept hb2)
          have HB2 : Hid (Below w.heap.size w w2) := HB.out.trans (hb2.mono hlow)
          have hlow2 : w.heap.size ≤ w2.heap.size := HB2.out.size
          clear hrs hsl hcS hb2 hgS
          go_wp2_with fail
          refine (modified_any gS cS n p (synB W p) _ Lo w2 HCS.out HSyn.out hp1 (by omega) (by omega) HSI2.out.rd (by rw [HT.out]; omega) (fun x hx => HLM.out x hx)).mono ?_
          rintro ex w3 ⟨vM, rfl, hslm, hb3⟩
          have hMl : (modTo n Lo (synB W p) Lo.length).length = p := by rw [modTo_len, HSyn.out]
          have hitE : ∀ e m, m + (t + e) = p → Hit W p Lo e → ∃ x, Uniq m e (errM (modTo n Lo (synB W p) Lo.length) e (t + e)) x := by
            intro e m hm h
            have := hit_errors (m := m) h (by rw [HT.out]; exact hm)
            rw [HWL.out] at this
            have e1 : Lo.length + e = t + e := by rw [HT.out]
            rw [e1] at this
            exact this
          have hitR : ∀ e m loc, m + (t + e) = p → Hit W p Lo e → (∀ x, Sol m e (errM (modTo n Lo (synB W p) Lo.length) e (t + e)) x → ∀ a, a < e → x a = F.mk (loc[a]?.getD 0)) →
              (rootsTo loc n e Lo n).length = e ∧ (∃ x, Uniq p (Lo ++ rootsTo loc n e Lo n).length (valM (synB W p) n (Lo ++ rootsTo loc n e Lo n) (Lo ++ rootsTo loc n e Lo n).length) x) ∧
                ∀ y, (∀ x, Sol p (Lo ++ rootsTo loc n e Lo n).length (valM (synB W p) n (Lo ++ rootsTo loc n e Lo n) (Lo ++ rootsTo loc n e Lo n).length) x → ∀ a, a < (Lo ++ rootsTo loc n e Lo n).length → x a = F.mk (y[a]?.getD 0)) →
                  ∀ i, i < p → horn (applyTo W (Lo ++ rootsTo loc n e Lo n) y (Lo ++ rootsTo loc n e Lo n).length) (F.expB i) = 0 := by
            intro e m loc hm h hl
            have e1 : Lo.length + e = t + e := by rw [HT.out]
            have := hit_roots (m := m) h (by rw [HT.out]; exact hm) loc (by rw [HWL.out, e1]; exact hl)
            rw [HWL.out] at this
            exact this
          obtain ⟨TT, hTT⟩ : ∃ TT, modTo n Lo (synB W p) Lo.length = TT := ⟨_, rfl⟩
          rw [hTT] at hslm hMl hitE hitR
          have HMl := Lib.hid hMl
          have HITE := Lib.hid hitE
          have HITR := Lib.hid hitR
          obtain ⟨gM, cM, rfl, hgM, hcM⟩ := sl_cells hslm HMl.out hp1
          have HCM := Lib.hid hcM
          have HCS3 := Lib.hid (HCS.out.kept hb3)
          have HSI3 := Lib.hid (HSI2.out.kept hb3)
          have HB3 : Hid (Below w.heap.size w w3) := HB2.out.trans (hb3.mono hlow2)
          have hlow3 : w.heap.size ≤ w3.heap.size := HB3.out.size
          clear hslm hcM hb3 hgM HB HSI HSI2 HCS HB2 hTT hMl hitE hitR
          go_wp2_with fail
          go_loopw [14] (fun v14 wr => ∃ e : Nat, e ≤ p + 1 ∧ v14 = .int .i64 e ∧ Hid (Below w3.heap.size w3 wr) ∧ Hid (∀ e', e' < e → ¬ Hit W p Lo e')) (fun v14 _ => p + 1 - (intOf v14).toNat)
          case atStart => exact ⟨0, Nat.zero_le _, rfl, Below.refl _ _, fun e' he => by omega⟩
          case round =>
            obtain ⟨e, he, rfl, HBr, HNH⟩ := hrel
            obtain ⟨wi, rfl⟩ : ∃ x : World, x = wr := ⟨_, rfl⟩
            have ew1 : IntKind.i64.wrap ((2 : Int) * (e : Int)) = 2 * (e : Int) := IntWalk.i64_in _ (by omega)
            have ew2 : IntKind.i64.wrap ((2 : Int) * (e : Int) + (t : Int)) = 2 * (e : Int) + (t : Int) := IntWalk.i64_in _ (by omega)
            by_cases hrad : 2 * e + t ≤ p
            · have hrI : (2 : Int) * e + t ≤ p := by omega
              obtain ⟨m, hm⟩ : ∃ m, p - (t + e) = m := ⟨_, rfl⟩
              have HMP : Hid (m + (t + e) = p) := by unfold Hid; omega
              have HM := Lib.hid hm
              clear hm
              go_wp2_with fail
              refine (errors_any gM cM p n e t m TT _ Lo wi (HCM.out.kept HBr.out) HMl.out (by omega) (by omega) HT.out (by omega) HM.out.symm (HSI3.out.kept HBr.out).rd).mono ?_
              rintro ex w4 ⟨hb4, ⟨vR, loc, rfl, hsr, hloc, hsol⟩ | ⟨rfl, hno⟩⟩
              · obtain ⟨Rt, hRt⟩ : ∃ Rt, rootsTo loc n e Lo n = Rt := ⟨_, rfl⟩
                have hitr := HITR.out e m loc HMP.out
                have hpl := places_ok loc n e Lo HLN.out HLM.out
                have hrp : ∀ x ∈ Rt, 0 ≤ x := fun x hx => by
                  have := (rootsTo_mem loc n e Lo x (by rw [hRt]; exact hx)).1
                  exact this.1
                rw [hRt] at hitr hpl hsr ⊢
                have HRP := Lib.hid hrp
                have HITr := Lib.hid (fun h => hitr h hsol)
                have HPL := Lib.hid hpl
                have HSR := Lib.hid hsr
                have HB4 : Hid (Below w3.heap.size w3 w4) := bt HBr.out hb4
                have HSI4 := Lib.hid (HSI3.out.kept HB4.out)
                have HCS4 := Lib.hid (HCS3.out.kept HB4.out)
                clear hitr hpl hsr hb4 hloc hsol hRt hrp HBr
                by_cases hle : Rt.length = e
                · have hdl := decide_eq_true hle
                  rw [hdl]
                  clear hdl
                  have HLE := Lib.hid hle
                  clear hle
                  have hlo4 : w.heap.size ≤ w4.heap.size := Nat.le_trans hlow3 HB4.out.size
                  go_wp2_with first
                    | (at_builtin; refine wpList_append_some rfl _ _ 23 3 rfl Try.underlying23 Try.infoI64 w4.heap.size _ 0 [] rfl (World.ownsRow_lit w4 #[] 0 (Nat.le_refl _) (by unfold maxLen; omega) rfl) rfl (by simp) w.heap.size _ t Lo rfl (HSI4.out.kept ((Below.refl w4.heap.size w4).alloc (Nat.le_refl _) _)) HT.out (by omega) ?_; intro v5 w5 ho5 hg5; have HO5 := Lib.hid ho5; have HB5 : Hid (Below w4.heap.size w4 w5) := ownsB_grown (size := 1) ((Below.refl w4.heap.size w4).alloc (Nat.le_refl _) _) (World.ownsRow_lit w4 #[] 0 (Nat.le_refl _) (by unfold maxLen; omega) rfl) hg5 (by simp) (Nat.le_refl _); clear ho5 hg5)
                    | (at_builtin; refine wpList_append_some rfl _ _ 23 3 rfl Try.underlying23 Try.infoI64 w4.heap.size v5 (0 + t) ([] ++ Lo) rfl HO5.out (by rw [List.nil_append, HT.out, Nat.zero_add]) HB5.out.size wi.heap.size _ e Rt rfl (HSR.out.kept HB5.out) HLE.out (by omega) ?_; intro v6 w6 ho6 hg6; have HO6 := Lib.hid ho6; have HB6 : Hid (Below w4.heap.size w4 w6) := ownsB_grown HB5.out HO5.out hg6 HB5.out.size (Nat.le_refl _); clear ho6 hg6)
                  have hAl : (Lo ++ Rt).length = t + e := by rw [List.length_append, HT.out, HLE.out]
                  have HRd : Hid (RdI w6 v6 (Lo ++ Rt)) := by
                    have := HO6.out
                    rw [List.nil_append, Nat.zero_add] at this
                    exact (slI_of_owns this hAl).rd
                  have HCS6 := Lib.hid (HCS4.out.kept HB6.out)
                  have HAL := Lib.hid hAl
                  have HB36 : Hid (Below w3.heap.size w3 w6) := bt HB4.out HB6.out
                  clear hAl HO5 HB5 HO6 HB6 HCS4 HSI4 HSR
                  refine (values_any s W n p (Lo ++ Rt).length gS cS (synB W p) v6 (Lo ++ Rt) w6 HW.out hn (by omega) (by omega) HCS6.out HSyn.out (by omega) rfl (by rw [HAL.out]; omega) HRd.out (fun x hx => HPL.out.2 x hx)).mono ?_
                  rintro ex w7 ⟨hb7, ⟨y, rfl, hy, hsoly⟩ | ⟨rfl, hnoy⟩⟩
                  · have HB7 : Hid (Below w3.heap.size w3 w7) := bt HB36.out hb7
                    have hcl := (applyTo_len W (Lo ++ Rt) y (Lo ++ Rt).length).trans HWL.out
                    have hout : ∀ i, i < W.length → (i : Int) ∉ Lo ++ Rt → co (applyTo W (Lo ++ Rt) y (Lo ++ Rt).length) i = co W i := fun i hi hni =>
                      apply_out W (Lo ++ Rt) y i hi (Lo ++ Rt).length (fun j hj e2 => hni (by
                        have h1 := (HPL.out.2 _ (getD_mem hj)).1
                        have e3 : (Lo ++ Rt)[j]?.getD 0 = (i : Int) := by omega
                        rw [← e3]; exact getD_mem hj))
                    have hhit := fun h => (HITr.out h).2.2 y hsoly
                    obtain ⟨c, hc⟩ : ∃ c, applyTo W (Lo ++ Rt) y (Lo ++ Rt).length = c := ⟨_, rfl⟩
                    rw [hc] at hcl hout hhit ⊢
                    obtain ⟨X, hX, hXd, hXs⟩ := str_of c
                    rw [hX]
                    rw [hcl] at hXs
                    have HX := Lib.hid hX
                    have HCL := Lib.hid hcl
                    have HOUT := Lib.hid hout
                    have HHIT := Lib.hid hhit
                    have HXD := Lib.hid hXd
                    clear hb7 hcl hout hhit hc hX hXd hsoly hy
                    go_wp2_with fail
                    refine (riscw_any X c p HXD.out hp1 (by omega) (by rw [hXs]; exact hpn) (by rw [hXs]; omega) w7).mono ?_
                    rintro ex w8 ⟨rfl, hb8⟩
                    have HB8 : Hid (Below w3.heap.size w3 w8) := bt HB7.out hb8
                    clear hb8
                    obtain ⟨bz, hbz⟩ : ∃ b, zeroTo (synB c p) p = b := ⟨_, rfl⟩
                    rw [hbz]
                    have HBZ := Lib.hid hbz
                    clear hbz
                    cases bz with
                    | true =>
                      have HDe : Hid (D = (c, (diffs W c).length, 0)) := by
                        rw [Hid, ← HD.out]
                        obtain ⟨q1, q2, q3, q4⟩ := HGOOD.out
                        refine dec_found (roots := Rt) ⟨hp1, by omega, by rw [HWL.out]; exact hpn, by rw [HWL.out]; omega⟩ (by rw [HWL.out]; exact HROOM.out) (by rw [HCL.out, HWL.out]) (zero_cw c p HBZ.out) HRP.out (by rw [HLO.out]; exact HOUT.out) (by rw [HLO.out, HT.out, HLE.out]; exact hrad)
                      go_wp2_with fail
                      have hlc := rlocate_any s X n hn hXs (by omega) w8
                      rw [HW.out, HXD.out] at hlc
                      refine hlc.mono ?_
                      rintro ex w9 ⟨v9, rfl, hs9, hb9⟩
                      obtain ⟨a9, c9, rfl⟩ := slI_form hs9
                      have hnl : (natI (diffs W c)).length = (diffs W c).length := by unfold natI; exact List.length_map _
                      rw [hnl]
                      have HBf : Hid (Below w.heap.size w w9) := HB3.out.trans ((bt HB8.out hb9).mono hlow3)
                      obtain ⟨nd, hnd⟩ : ∃ x, (diffs W c).length = x := ⟨_, rfl⟩
                      rw [hnd] at HDe ⊢
                      clear hlc hs9 hb9 hnl hnd
                      go_wp2_with fail
                      go_ret3
                      exact ⟨by rw [HDe.out, ← HX.out]; rfl, HBf.out⟩
                    | false =>
                      have HNH' : Hid (∀ e', e' < e + 1 → ¬ Hit W p Lo e') := fun e' he' h => by
                        by_cases c2 : e' = e
                        · rw [c2] at h
                          have h1 := cw_zero c p (HHIT.out h)
                          rw [HBZ.out] at h1; cases h1
                        · exact HNH.out e' (by omega) h
                      go_wp2_with fail
                      go_roundw
                      case rel => exact ⟨e + 1, by omega, by go_num, HB8.out, HNH'.out⟩
                      case measure => simp [intOf] <;> omega
                  · have HNH' : Hid (∀ e', e' < e + 1 → ¬ Hit W p Lo e') := fun e' he' h => by
                      by_cases c2 : e' = e
                      · rw [c2] at h; exact hnoy (HITr.out h).2.1
                      · exact HNH.out e' (by omega) h
                    have HB7 : Hid (Below w3.heap.size w3 w7) := bt HB36.out hb7
                    clear hnoy hb7
                    go_wp2_with fail
                    go_roundw
                    case rel => exact ⟨e + 1, by omega, by go_num, HB7.out, HNH'.out⟩
                    case measure => simp [intOf] <;> omega
                · have HNH' : Hid (∀ e', e' < e + 1 → ¬ Hit W p Lo e') := fun e' he' h => by
                    by_cases c : e' = e
                    · rw [c] at h; exact hle (HITr.out h).1
                    · exact HNH.out e' (by omega) h
                  have hdl := decide_eq_false hle
                  rw [hdl]
                  clear hdl hle
                  go_wp2_with fail
                  go_roundw
                  case rel => exact ⟨e + 1, by omega, by go_num, HB4.out, HNH'.out⟩
                  case measure => simp [intOf] <;> omega
              · have HNH' : Hid (∀ e', e' < e + 1 → ¬ Hit W p Lo e') := fun e' he' h => by
                  by_cases c : e' = e
                  · rw [c] at h; exact hno (HITE.out e m HMP.out h)
                  · exact HNH.out e' (by omega) h
                have HB4 : Hid (Below w3.heap.size w3 w4) := bt HBr.out hb4
                clear hno hb4
                go_wp2_with fail
                go_roundw
                case rel => exact ⟨e + 1, by omega, by go_num, HB4.out, HNH'.out⟩
                case measure => simp [intOf] <;> omega
            · have hrI : ¬ (2 : Int) * e + t ≤ p := by omega
              have HDe : Hid (D = ([], 0, 11)) := by
                rw [Hid, ← HD.out]
                refine decB_miss HGOOD.out (by rw [HWL.out]; exact HROOM.out) (by rw [HLO.out, HT.out]; omega) (fun e' he' h => ?_)
                rw [HLO.out] at h he'
                rw [HT.out] at he'
                exact HNH.out e' (by omega) h
              have HBf : Hid (Below w.heap.size w wi) := HB3.out.trans (HBr.out.mono hlow3)
              go_wp2_with fail
              go_ret3
              exact ⟨by rw [HDe.out]; rfl, HBf.out⟩
  · have hc : D = ([], 0, 1) := by rw [← hD]; exact decB_arg hg
    subst hc
    have hg' : P < 1 ∨ (s.size : Int) < P := by
      unfold goodP at hg
      rw [hWl] at hg
      omega
    clear hD hg hW hWl hE
    by_cases h1 : P < 1
    · go_enter Try.func17, Try.ntmps17
      have d1 : decide (P < 1) = true := decide_eq_true h1
      go_wp2_with fail
      go_ret3
      exact ⟨rfl, Below.refl _ _⟩
    · have h2 : (s.size : Int) < P := by omega
      obtain ⟨p, rfl⟩ : ∃ p : Nat, P = p := ⟨P.toNat, by omega⟩
      have h2' : s.size < p := by omega
      have d1 : decide ((p : Int) < 1) = false := decide_eq_false h1
      have d2 : decide ((64 : Int) < p) = false := decide_eq_false (by omega)
      have d3 : decide (s.size < p) = true := decide_eq_true h2'
      go_enter Try.func17, Try.ntmps17
      go_wp2_with fail
      go_ret3
      exact ⟨rfl, Below.refl _ _⟩
end Go.Proofs.Ytamkahjdedomlaa
namespace Go.Proofs.Ytamkahjdedomlaa
open Go.RowKit
set_option linter.unusedVariables false
set_option maxRecDepth 100000 in
set_option maxHeartbeats 4000000 in
theorem rsdecodeResults.walk (w : World) (s : ByteArray) (w0 : s.size ≤ maxLen) (p : Int) (w1 : (Lit.int .i64 p).wf = true) (v2 : Value) (zs : List Int) (hz : IsInts .i64 w v2 zs) :
    Calls Try.prog 4 #[.string s, .int .i64 p, v2] w fun e w' => e = .returned (.bool true) ∧ Below w.heap.size w w' := by
  obtain ⟨a2, off, cap, hv2, hf2⟩ := hz.rd.form
  obtain ⟨nz, hnz⟩ : ∃ nz, zs.length = nz := ⟨_, rfl⟩
  have hnzb : nz ≤ maxLen := by
    rcases hz with ⟨_, _, _, rfl⟩ | ⟨_, _, _, _, h2, h3, _⟩
    · simp at hnz; omega
    · omega
  rw [hnz] at hv2 hf2
  have HRd := Lib.hid hz.rd
  have HNZ := Lib.hid hnz
  subst hv2
  unfold maxLen at w0 hnzb
  obtain ⟨W, hW⟩ : ∃ W, s.data.toList = W := ⟨_, rfl⟩
  have HW := Lib.hid hW
  obtain ⟨b, hb⟩ : ∃ b, smallB s.size p nz = b := ⟨_, rfl⟩
  have HBb := Lib.hid hb
  have HWp := Lib.hid w1
  clear hz hf2 hnz hW hb w1
  cases b with
  | false =>
    go_enter Try.func4, Try.ntmps4
    go_wp2_with fail
    refine (alive_any _).mono ?_
    rintro e w1 ⟨rfl, hB1⟩
    have HB1 := Lib.hid hB1
    clear hB1
    go_wp2_with fail
    refine (small_any s p a2 nz cap _ w0 hnzb false HBb).mono ?_
    rintro e w2 ⟨rfl, rfl⟩
    go_wp2
    go_ret
    exact ⟨rfl, HB1.out⟩
  | true =>
    have hsm := of_decide_eq_true HBb.out
    obtain ⟨hs60, hp16, hn40⟩ := hsm
    obtain ⟨D, hD⟩ : ∃ D, decB W p zs = D := ⟨_, rfl⟩
    have HD := Lib.hid hD
    have hpl : -9223372036854775808 ≤ p := by
      have := bounds_i64 HWp.out
      omega
    clear hD
    go_enter Try.func4, Try.ntmps4
    go_wp2_with fail
    refine (alive_any _).mono ?_
    rintro e w1 ⟨rfl, hB1⟩
    have HB1 := Lib.hid hB1
    clear hB1
    go_wp2_with fail
    refine (small_any s p a2 nz cap _ w0 hnzb true HBb).mono ?_
    rintro e w2 ⟨rfl, rfl⟩
    go_wp2_with fail
    have hdec := decode_any s W p _ zs w1 HW.out (HRd.out.kept HB1.out) (by rw [HNZ.out]; omega)
    rw [HD.out] at hdec
    refine hdec.mono ?_
    rintro e w3 ⟨rfl, hb3⟩
    have HB3 := Lib.hid (bt HB1.out hb3)
    have hrd := rdec_any s W p _ zs w3 HW.out hs60 hp16 hpl (HRd.out.kept HB3.out) (by rw [HNZ.out]; exact hn40)
    rw [HD.out] at hrd
    obtain ⟨o, d, er⟩ := D
    clear hdec hb3
    go_wp2_with fail
    refine hrd.mono ?_
    rintro e w4 ⟨rfl, hb4⟩
    have HB4 := Lib.hid (bt HB3.out hb4)
    clear hrd hb4
    go_wp2_with fail
    go_ret
    exact ⟨rfl, HB4.out⟩
end Go.Proofs.Ytamkahjdedomlaa
