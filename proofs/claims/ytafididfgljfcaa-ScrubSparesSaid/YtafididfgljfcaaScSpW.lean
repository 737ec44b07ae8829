/-
  The walk of the law ScrubSpares.
-/
import Derived.Test.YtafididfgljfcaaScSpPl
import Derived.Test.YtafididfgljfcaaApS
import Derived.Test.YtafididfgljfcaaScResW
import Derived.Test.YtafididfgljfcaaSafe
namespace Go.Proofs.Ytafididfgljfcaa
open Go.RowKit
set_option linter.unusedVariables false
/-- The frames and the sightings that the law has collected: two slices of the call's own, apart. -/
structure SpRel (w0 : World) (F : List Fr) (G : List Sg) (v8 v9 : Value) (wr : World) : Prop where
  f : wr.ownsRow w0.heap.size 39 9 v8 F.length (F.flatMap Fr.cs)
  g : wr.ownsRow w0.heap.size 43 14 v9 G.length (G.flatMap Sg.cs)
  apart : ∀ b, v8.ownBlock = some b → v9.ownBlock = some b → False
  below : Below w0.heap.size w0 wr
theorem own_lt {w : World} {base n size : Nat} {e : TypeId} {v : Value} {cs : List Value} (h : w.ownsRow base e size v n cs) {b : Nat} (hb : v.ownBlock = some b) : b < w.heap.size := by
  rcases h.2 with ⟨hv, _⟩ | ⟨g, cap, cur, hv, hgb, hg, _⟩
  · subst hv; cases hb
  · subst hv
    have : g = b := Option.some.inj hb
    subst this
    exact (Array.getElem?_eq_some_iff.1 hg).1
theorem own_ne' {v u : Value} (h : ∀ b, v.ownBlock = some b → u.ownBlock = some b → False) : v.ownBlock = none ∨ v.ownBlock ≠ u.ownBlock := by
  cases hv : v.ownBlock with
  | none => exact Or.inl rfl
  | some b => exact Or.inr fun e => h b hv e.symm
section
variable {w0 wr w' : World} {F : List Fr} {G : List Sg} {v8 v9 v : Value}
theorem SpRel.kept (h : SpRel w0 F G v8 v9 wr) (hb : Below wr.heap.size wr w') : SpRel w0 F G v8 v9 w' :=
  ⟨ownsS_below h.f hb, ownsS_below h.g hb, h.apart, h.below.trans (hb.mono h.below.size)⟩
theorem SpRel.addF (h : SpRel w0 F G v8 v9 wr) {x : Fr} {n : Nat} (hn : n = F.length) (ho : w'.ownsRow w0.heap.size 39 9 v (n + 1) ((F ++ [x]).flatMap Fr.cs)) (hg : wr.grownBy w' v8.ownBlock) (hv : v.ownBlock = v8.ownBlock ∨ v.ownBlock = some wr.heap.size) : SpRel w0 (F ++ [x]) G v v9 w' := by
  subst hn
  refine ⟨by rw [List.length_append]; exact ho, h.g.kept hg (own_ne' fun b h1 h2 => h.apart b h2 h1), fun b h1 h2 => ?_, belowS_grown h.below h.f hg h.below.size (Nat.le_refl _)⟩
  rcases hv with e | e
  · exact h.apart b (e ▸ h1) h2
  · rw [e] at h1
    have := own_lt h.g h2
    have := Option.some.inj h1
    omega
theorem SpRel.addG (h : SpRel w0 F G v8 v9 wr) {x : Sg} {n : Nat} (hn : n = G.length) (ho : w'.ownsRow w0.heap.size 43 14 v (n + 1) ((G ++ [x]).flatMap Sg.cs)) (hg : wr.grownBy w' v9.ownBlock) (hv : v.ownBlock = v9.ownBlock ∨ v.ownBlock = some wr.heap.size) : SpRel w0 F (G ++ [x]) v8 v w' := by
  subst hn
  refine ⟨h.f.kept hg (own_ne' h.apart), by rw [List.length_append]; exact ho, fun b h1 h2 => ?_, belowS_grown h.below h.g hg h.below.size (Nat.le_refl _)⟩
  rcases hv with e | e
  · exact h.apart b h1 (e ▸ h2)
  · rw [e] at h2
    have := own_lt h.f h1
    have := Option.some.inj h2
    omega
theorem SpRel.start (w0 : World) : SpRel w0 [] [] (.slice (some ⟨w0.heap.size, 0, none⟩) 0 0) (.slice (some ⟨w0.heap.size + 1, 0, none⟩) 0 0) ((w0.alloc (.cells #[] 39)).alloc (.cells #[] 43)) := by
  have hs : (w0.alloc (.cells #[] 39)).heap.size = w0.heap.size + 1 := by simp
  refine ⟨(owns_empty w0 _ 9).alloc _, ?_, fun b h1 h2 => ?_, ((Below.refl _ _).alloc (Nat.le_refl _) _).alloc (by simp) _⟩
  · have := owns_empty (w0.alloc (.cells #[] 39)) 43 14
    rw [hs] at this
    exact ⟨this.1, this.2.imp id fun ⟨g, cap, cur, a, b, r⟩ => ⟨g, cap, cur, a, by omega, r⟩⟩
  · have e1 : w0.heap.size = b := Option.some.inj h1
    have e2 : w0.heap.size + 1 = b := Option.some.inj h2
    omega
end
theorem frame_at (D S k i : Nat) (hk : k < 256) (hi : i < 256) (w : World) :
    Calls Try.prog 19 #[.int .i64 (i : Int), .int .i64 (k : Int), .agg #[.int .i64 (D : Int), .int .i64 (S : Int)]] w fun e w' => e = .returned (spFr D S k i).v ∧ Below w.heap.size w w' := by
  have := frame_any (UInt8.ofNat i) (UInt8.ofNat k) (D : Int) (S : Int) w
  rw [u8_ofNat _ hi, u8_ofNat _ hk] at this
  exact this
theorem bSp (f : Fr) : Try.prog.built 43 [(2, f.v)] = some (Sg.cs (spSg f)).toArray := by kernel_rfl
theorem spFr_ok (D S k i : Nat) (hD : D ≤ 1000) (hS : S ≤ 1000) : (spFr D S k i).Ok := lawFr_ok _ _ _ _ (WalkArith.wf_i64 (by omega)) (WalkArith.wf_i64 (by omega))
theorem rows1 {α : Type} {n : Nat} {cs : α → List Value} (hn : ∀ x, (cs x).length = n) (w : World) (x : α) (e : TypeId) : RowsAt n cs (w.alloc (.cells (cs x).toArray e)) (some ⟨w.heap.size, 0, none⟩) 0 [x] := by
  intro i y hy
  match i, hy with
  | 0, hy =>
    cases hy
    refine ⟨w.heap.size, rfl, by simp, ?_⟩
    rw [Nat.zero_mul, Nat.zero_add]
    exact box_range w (cs x) e
def lostOf (x y z : Int) (k : Nat) : Int := if k = 0 then x else if k = 1 then y else z
theorem los_cell {w : World} {b : Nat} {x y z : Int} (h : w.rangeAt b 0 [.int .u16 x, .int .u16 y, .int .u16 z]) (k : Nat) (hk : k < 3) : w.cell? ⟨b, k, none⟩ = some (.int .u16 (lostOf x y z k)) := by
  match k, hk with
  | 0, _ => exact h 0 _ rfl
  | 1, _ => exact h 1 _ rfl
  | 2, _ => exact h 2 _ rfl
set_option maxRecDepth 100000 in
set_option maxHeartbeats 4000000 in
theorem scrubSpares.walk (d0 : Int) (wd : (Lit.int .u8 d0).wf = true) (s0 : Int) (ws : (Lit.int .u8 s0).wf = true) (x y z : Int) (wx : (Lit.int .u16 x).wf = true) (wy : (Lit.int .u16 y).wf = true) (wz : (Lit.int .u16 z).wf = true) (w : World) :
    Calls Try.prog 9 #[.int .u8 d0, .int .u8 s0, .agg #[.int .u16 x, .int .u16 y, .int .u16 z]] w fun e w' => e = .returned (.bool true) ∧ Below w.heap.size w w' := by
  have hd : 0 ≤ d0 ∧ d0 ≤ 255 := bounds_u8 wd
  have hs : 0 ≤ s0 ∧ s0 ≤ 255 := bounds_u8 ws
  obtain ⟨dn, rfl⟩ : ∃ n : Nat, d0 = (n : Int) := ⟨d0.toNat, by omega⟩
  obtain ⟨sn, rfl⟩ : ∃ n : Nat, s0 = (n : Int) := ⟨s0.toNat, by omega⟩
  obtain ⟨D, hD⟩ : ∃ D : Nat, (1 : Int) + (dn : Int) % 8 = D := ⟨1 + dn % 8, by omega⟩
  obtain ⟨S, hS⟩ : ∃ S : Nat, (sn : Int) % 8 = S := ⟨sn % 8, by omega⟩
  have hD1 : 1 ≤ D := by omega
  have hD2 : D ≤ 8 := by omega
  have hS2 : S ≤ 7 := by omega
  obtain ⟨m, hm⟩ : ∃ m, D + S = m := ⟨_, rfl⟩
  have ewd : IntKind.i64.wrap ((1 : Int) + (dn : Int) % 8) = D := by rw [hD]; exact IntWalk.i64_in _ (by omega)
  have ewm : IntKind.i64.wrap ((D : Int) + (S : Int)) = m := by rw [show (D : Int) + (S : Int) = m by omega]; exact IntWalk.i64_in _ (by omega)
  clear wd ws
  go_enter Try.func9, Try.ntmps9
  obtain ⟨w0, hw0⟩ : ∃ w0, (w.alloc (.cells #[.int .u16 x, .int .u16 y, .int .u16 z] 50)).alloc (.cells #[.int .i64 (D : Int), .int .i64 (S : Int)] 36) = w0 := ⟨_, rfl⟩
  have hz0 : w0.heap.size = w.heap.size + 1 + 1 := by rw [← hw0]; simp
  have HB0 : Hid (Below w.heap.size w w0) := by unfold Hid; rw [← hw0]; exact ((Below.refl _ _).alloc (Nat.le_refl _) _).alloc (by simp) _
  have HLay : Hid (w0.rangeAt (w.heap.size + 1) 0 [.int .i64 (D : Int), .int .i64 (S : Int)]) := by
    unfold Hid
    have := box_range (w.alloc (.cells #[.int .u16 x, .int .u16 y, .int .u16 z] 50)) [.int .i64 (D : Int), .int .i64 (S : Int)] 36
    rw [show (w.alloc (.cells #[.int .u16 x, .int .u16 y, .int .u16 z] 50)).heap.size = w.heap.size + 1 by simp] at this
    rw [← hw0]; exact this
  have HLos : Hid (w0.rangeAt w.heap.size 0 [.int .u16 x, .int .u16 y, .int .u16 z]) := by
    unfold Hid
    rw [← hw0]
    exact World.rangeAt_alloc (box_range w [.int .u16 x, .int .u16 y, .int .u16 z] 50) _
  have HST : Hid (SpRel w0 [] [] (.slice (some ⟨w.heap.size + 1 + 1, 0, none⟩) 0 0) (.slice (some ⟨w.heap.size + 1 + 1 + 1, 0, none⟩) 0 0) ((w0.alloc (.cells #[] 39)).alloc (.cells #[] 43))) := by
    have := SpRel.start w0
    rw [hz0] at this; exact this
  obtain ⟨L, hL⟩ : ∃ L : Nat → Nat → Bool, ∀ k i, (bits BinOp.and IntKind.u16 (lostOf x y z k / 2 ^ i) 1 == 1) = L k i := ⟨_, fun _ _ => rfl⟩
  have HLL := Lib.hid hL
  clear hL
  have hlos : ∀ k, k < 3 → 0 ≤ lostOf x y z k ∧ lostOf x y z k ≤ 65535 := by
    intro k _
    have := bounds_u16 wx
    have := bounds_u16 wy
    have := bounds_u16 wz
    unfold lostOf
    split
    · omega
    · split <;> omega
  have HLOS := Lib.hid hlos
  clear hlos wx wy wz
  have hzF : (w0.alloc (.cells #[] 39)).heap.size = w0.heap.size + 1 := by simp
  go_wp2_with fail
  clear hD hS
  go_loopw [8, 9, 10, 25] (fun v8 v9 v10 i wr => ∃ k : Nat, k ≤ 3 ∧ i = .int .i64 k ∧ v10 = .bool (spOk L S m k) ∧ Hid (SpRel w0 (spW D S m k 0) (spG L D S m k 0) v8 v9 wr)) (fun _ _ _ i _ => 3 - (intOf i).toNat)
  case atStart => exact ⟨0, Nat.zero_le _, rfl, rfl, HST⟩
  case round =>
    have HB00 := HB0
    clear HST hw0 hzF HB0
    obtain ⟨k, hk, rfl, rfl, HR⟩ := hrel
    obtain ⟨wo, rfl⟩ : ∃ wo : World, wo = wr := ⟨_, rfl⟩
    by_cases hlt : k < 3
    · have hc0 : wo.cell? ⟨w.heap.size + 1, 0, none⟩ = some (.int .i64 (D : Int)) := rangeAt_kept HLay.out HR.out.below (by omega) 0 _ rfl
      have hc1 : wo.cell? ⟨w.heap.size + 1, 1, none⟩ = some (.int .i64 (S : Int)) := rangeAt_kept HLay.out HR.out.below (by omega) 1 _ rfl
      obtain ⟨ok, hok⟩ : ∃ b, spOk L S m k = b := ⟨_, rfl⟩
      rw [hok]
      have HOKB := Lib.hid hok
      clear hok
      have hltI : (k : Int) < 3 := by omega
      have hltB : decide ((k : Int) < 3) = true := decide_eq_true hltI
      go_wp2_with fail
      go_loopw [8, 9, 12, 33] (fun v8 v9 v12 i wr => ∃ j : Nat, j ≤ m ∧ i = .int .i64 j ∧ v12 = .int .i64 (spN L k j) ∧ Hid (SpRel w0 (spW D S m k j) (spG L D S m k j) v8 v9 wr)) (fun _ _ _ i _ => m - (intOf i).toNat)
      case atStart => exact ⟨0, Nat.zero_le _, rfl, rfl, HR⟩
      case round =>
        clear HR hc0 hc1
        obtain ⟨j, hj, rfl, rfl, HI⟩ := hrel
        obtain ⟨wi, rfl⟩ : ∃ wi : World, wi = wr := ⟨_, rfl⟩
        by_cases hjt : j < m
        · have HLi : Hid (wi.rangeAt (w.heap.size + 1) 0 [.int .i64 (D : Int), .int .i64 (S : Int)]) := rangeAt_kept HLay.out HI.out.below (by omega)
          go_wp2_with first
            | refine wpList_load_mid rfl 36 _ rfl (w.heap.size + 1) 0 rfl [.int .i64 (D : Int), .int .i64 (S : Int)] _ HLi.out Try.underlying36 rfl (by kernel_rfl) ?_
          refine (frame_at D S k j (by omega) (by omega) wi).mono ?_
          rintro e w4 ⟨rfl, hb4⟩
          obtain ⟨fr, hfr⟩ : ∃ f, spFr D S k j = f := ⟨_, rfl⟩
          obtain ⟨F, hF⟩ : ∃ F, spW D S m k j = F := ⟨_, rfl⟩
          obtain ⟨G, hG⟩ : ∃ G, spG L D S m k j = G := ⟨_, rfl⟩
          have hlF := spW_len D S m k j
          have hlG := spG_len L D S m k j
          have hkm : k * m ≤ 2 * m := Nat.mul_le_mul_right m (by omega)
          rw [hF] at hlF
          rw [hG] at hlG
          have HI4 := HI.out.kept hb4
          rw [hF, hG] at HI4
          obtain ⟨n4, hn4⟩ : ∃ n, w4.heap.size = n := ⟨_, rfl⟩
          obtain ⟨w5, hw5⟩ : ∃ w5, w4.alloc (.cells fr.cs.toArray 39) = w5 := ⟨_, rfl⟩
          have HW5 := Lib.hid hw5
          have HI5 : Hid (SpRel w0 F G u8 u9 w5) := by unfold Hid; rw [← hw5]; exact HI4.kept ((Below.refl _ _).alloc (Nat.le_refl _) _)
          have HBx : Hid (w5.rangeAt n4 0 fr.cs) := by unfold Hid; rw [← hw5, ← hn4]; exact box_range w4 fr.cs 39
          have hz5 : w5.heap.size = n4 + 1 := by rw [← hw5]; simp [hn4]
          have h05 : w0.heap.size ≤ w5.heap.size := HI5.out.below.size
          have HOW : Hid (∀ b, u8.ownBlock = some b → b < n4) := fun b hb => by rw [← hn4]; exact own_lt HI4.f hb
          have hn05 : w0.heap.size ≤ n4 := by rw [← hn4]; exact HI4.below.size
          rw [hfr]
          have HFR := Lib.hid hfr
          have HFe := Lib.hid hF
          have HGe := Lib.hid hG
          have HlF : Hid (F.length ≤ 100) := by unfold Hid; omega
          have HlG : Hid (G.length ≤ 100) := by unfold Hid; omega
          have HS5 := HI5.out.kept ((Below.refl w5.heap.size w5).alloc (Nat.le_refl _) (.cells fr.cs.toArray 39))
          have HK5 := Lib.hid HS5
          clear HI4 HS5 hw5 hfr hF hG hlF hlG hb4 HI HLi
          go_upto_if 50 with (first
            | (refine wpList_store_b rfl 39 _ _ rfl w4 _ fr.cs n4 rfl rfl hn4 rfl Try.size39 rfl fr.ones ?_; rw [HW5.out])
            | refine wpList_load_mid rfl 39 _ rfl n4 0 rfl fr.cs _ HBx.out Try.underlying39 rfl Try.size39 ?_
            | refine wpList_slice1 rfl 23 39 _ rfl Try.underlying23 _ 9 80 Try.infoF (by omega) (by omega) Fr.cs Fr.len fr rfl ?_
            | (at_builtin; refine wpList_append_L rfl _ _ 23 39 rfl Try.underlying23 _ 9 80 Try.infoF rfl (by omega) (by omega) Fr.cs Fr.len Fr.ones w0.heap.size u8 F.length F rfl HK5.out.f (by simp; omega) (some ⟨w5.heap.size, 0, none⟩) 0 1 1 [fr] rfl rfl (rows1 Fr.len w5 fr 39) (by have := HlF.out; omega) ?_; intro v6 w6 ho6 hg6 hv6; have HI6 := Lib.hid (HK5.out.addF rfl ho6 hg6 hv6); have HBx6 : Hid (w6.rangeAt n4 0 fr.cs) := rangeAt_grown (World.rangeAt_alloc HBx.out _) hg6 (by simp; omega) (fun e => Nat.lt_irrefl _ (HOW.out n4 e.symm)); have hcl6 := los_cell (rangeAt_kept HLos.out HI6.out.below (by omega)) k hlt))
          have HWn := Lib.hid (spW_step D S m k j)
          have hNle := spN_le L k j
          cases hl : L k j with
          | true =>
            have hb : (bits BinOp.and IntKind.u16 (lostOf x y z k / 2 ^ j) 1 == 1) = true := by rw [HLL.out]; exact hl
            have HG' := Lib.hid (spG_lost L D S m k j hl)
            have HN' := Lib.hid (spN_lost L k j hl)
            have HR' : Hid (SpRel w0 (spW D S m k (j + 1)) (spG L D S m k (j + 1)) v6 u9 w6) := by unfold Hid; rw [HWn.out, HG'.out, HFe.out, HGe.out, HFR.out]; exact HI6.out
            clear hl hcl6
            go_wp2_with fail
            go_roundw
            case rel => exact ⟨j + 1, by omega, by go_num, by rw [HN'.out]; go_num, HR'.out⟩
            case measure => simp [intOf] <;> omega
          | false =>
            have hb : (bits BinOp.and IntKind.u16 (lostOf x y z k / 2 ^ j) 1 == 1) = false := by rw [HLL.out]; exact hl
            have HG' := Lib.hid (spG_kept L D S m k j hl)
            have HN' := Lib.hid (spN_kept L k j hl)
            have h06 : w0.heap.size ≤ w6.heap.size := HI6.out.below.size
            have HS7 := HI6.out.kept ((Below.refl w6.heap.size w6).alloc (Nat.le_refl _) (.cells (spSg fr).cs.toArray 43))
            have HK7 := Lib.hid HS7
            clear hl hcl6 HS7
            go_wp2_with first
              | refine wpList_load_mid rfl 39 _ rfl n4 0 rfl fr.cs _ HBx6.out Try.underlying39 rfl Try.size39 ?_
              | refine wpList_build_of rfl 43 _ rfl _ [(2, fr.v)] rfl (bSp fr) ?_
              | refine wpList_slice1 rfl 22 43 _ rfl Try.underlying22 _ 14 120 Try.infoS (by omega) (by omega) Sg.cs Sg.len (spSg fr) rfl ?_
              | (at_builtin; refine wpList_append_L rfl _ _ 22 43 rfl Try.underlying22 _ 14 120 Try.infoS rfl (by omega) (by omega) Sg.cs Sg.len Sg.ones w0.heap.size u9 G.length G rfl HK7.out.g (by simp; omega) (some ⟨w6.heap.size, 0, none⟩) 0 1 1 [spSg fr] rfl rfl (rows1 Sg.len w6 (spSg fr) 43) (by have := HlG.out; omega) ?_; intro v7 w7 ho7 hg7 hv7; have HI7 := Lib.hid (HK7.out.addG rfl ho7 hg7 hv7))
            have HR' : Hid (SpRel w0 (spW D S m k (j + 1)) (spG L D S m k (j + 1)) v6 v7 w7) := by unfold Hid; rw [HWn.out, HG'.out, HFe.out, HGe.out, HFR.out]; exact HI7.out
            clear ho7 hg7 hv7
            go_roundw
            case rel => exact ⟨j + 1, by omega, by go_num, by rw [HN'.out], HR'.out⟩
            case measure => simp [intOf] <;> omega
        · have hjm : j = m := by omega
          have HW' := Lib.hid (spW_next D S m k)
          have HG' := Lib.hid (spG_next L D S m k)
          have HO' := Lib.hid (spOk_next L S m k)
          have hi1 : wi.cell? ⟨w.heap.size + 1, 1, none⟩ = some (.int .i64 (S : Int)) := rangeAt_kept HLay.out HI.out.below (by omega) 1 _ rfl
          have HR' : Hid (SpRel w0 (spW D S m (k + 1) 0) (spG L D S m (k + 1) 0) u8 u9 wi) := by unfold Hid; rw [HW'.out, HG'.out]; rw [hjm] at HI; exact HI.out
          have hnj : spN L k j = spN L k m := by rw [hjm]
          rw [hnj]
          obtain ⟨nk, hnk⟩ : ∃ n, spN L k m = n := ⟨_, rfl⟩
          rw [hnk] at HO' ⊢
          rw [HOKB.out] at HO'
          clear HI hnj hnk
          cases ok with
          | false =>
            go_wp2_with fail
            go_roundw
            case rel => exact ⟨k + 1, by omega, by go_num, by rw [HO'.out]; rfl, HR'.out⟩
            case measure => simp [intOf] <;> omega
          | true =>
            by_cases hns : nk ≤ S
            · have hdn : decide (nk ≤ S) = true := decide_eq_true hns
              have HO2 : Hid (spOk L S m (k + 1) = true) := by unfold Hid; rw [HO'.out, hdn]; rfl
              go_wp2_with fail
              go_roundw
              case rel => exact ⟨k + 1, by omega, by go_num, by rw [HO2.out], HR'.out⟩
              case measure => simp [intOf] <;> omega
            · have hdn : decide (nk ≤ S) = false := decide_eq_false hns
              have HO2 : Hid (spOk L S m (k + 1) = false) := by unfold Hid; rw [HO'.out, hdn]; rfl
              go_wp2_with fail
              go_roundw
              case rel => exact ⟨k + 1, by omega, by go_num, by rw [HO2.out], HR'.out⟩
              case measure => simp [intOf] <;> omega
    · have hk3 : k = 3 := by omega
      subst hk3
      have HSf := Lib.hid (spSafe L D S m 3 hD1 hm.symm (by omega) (by omega))
      have hlF := spW_len D S m 3 0
      have hlG := spG_len L D S m 3 0
      have hFok : ∀ f ∈ spW D S m 3 0, f.Ok := fun f hf => by
        obtain ⟨k, i, _, _, rfl⟩ := (spW_mem D S m 3 f).1 hf
        exact spFr_ok D S k i (by omega) (by omega)
      have hGok : ∀ s ∈ spG L D S m 3 0, s.frame.Ok := fun s hs => by
        obtain ⟨k, i, _, _, _, rfl⟩ := (spG_mem L D S m 3 s).1 hs
        exact spFr_ok D S k i (by omega) (by omega)
      obtain ⟨F, hF⟩ : ∃ F, spW D S m 3 0 = F := ⟨_, rfl⟩
      obtain ⟨G, hG⟩ : ∃ G, spG L D S m 3 0 = G := ⟨_, rfl⟩
      obtain ⟨ok, hok⟩ : ∃ b, spOk L S m 3 = b := ⟨_, rfl⟩
      have HR2 := HR.out
      rw [hF, hG] at HSf HR2
      rw [hok] at HSf ⊢
      rw [hF] at hlF hFok
      rw [hG] at hlG hGok
      have HIF : Hid (IsS 9 Fr.cs wo u8 F) := isS_of_owns Fr.len HR2.f rfl
      have HIG : Hid (IsS 14 Sg.cs wo u9 G) := isS_of_owns Sg.len HR2.g rfl
      have HBo : Hid (Below w.heap.size w wo) := HB00.out.trans (HR2.below.mono (by omega))
      have HFO := Lib.hid hFok
      have HGO := Lib.hid hGok
      clear HR2 HR hF hG hok hFok hGok
      go_wp2_with fail
      refine (safe_any G F _ _ _ _ wo rfl (by omega) rfl (by omega) HIG.out HIF.out HGO.out HFO.out).mono ?_
      rintro e w4 ⟨rfl, hb4⟩
      rw [HSf.out]
      have HB4 := Lib.hid (bt HBo.out hb4)
      clear hb4
      have hbb : (ok == ok) = true := by cases ok <;> rfl
      go_wp2_with fail
      refine (awake_any _).mono ?_
      rintro e w7 ⟨rfl, hb7⟩
      have HB7 := Lib.hid (bt HB4.out hb7)
      clear hb7
      go_wp2_with fail
      go_ret
      exact ⟨rfl, HB7.out⟩
end Go.Proofs.Ytafididfgljfcaa
