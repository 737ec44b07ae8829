/-
  The walk of the law ReedsolomonRoots.
-/
import Derived.Test.YtjepedejclfnmaaRsPre
namespace Go.Proofs.Ytjepedejclfnmaa
open Go.RowKit
set_option linter.unusedVariables false

theorem co_reverse (l : List UInt8) (i : Nat) (h : i < l.length) : co l.reverse i = co l (l.length - 1 - i) := by unfold co; rw [List.getElem?_reverse h]
theorem ev_sum (p : List UInt8) (x : UInt8) : F.mk (evB p x) = F.sumN p.length (fun j => co p j * F.pow (F.mk x) j) := by
  unfold evB
  rw [horn_eq, List.length_reverse, F.sumN_rev]
  refine F.sumN_congr fun i hi => ?_
  rw [co_reverse _ _ (by omega)]
  rw [show p.length - 1 - (p.length - 1 - i) = i by omega]
theorem ev_gen (p n : Nat) (hp : p ≤ 64) (hn : n < 255) : evB (genB p) (F.expB n) = 0 ↔ n < p := by
  have h1 := ev_sum (genB p) (F.expB n)
  rw [gen_len] at h1
  have h2 : F.mk (evB (genB p) (F.expB n)) = gval p (F.exp n) := h1
  constructor
  · intro e
    refine Nat.lt_of_not_le fun hle => ?_
    refine gval_ne p (F.exp n) (fun i hi e' => ?_) (h2.symm.trans e)
    have := F.exp_inj hn (by omega) e'
    omega
  · intro h; exact h2.trans (gval_root p n h)

set_option maxRecDepth 100000 in
set_option maxHeartbeats 1000000 in
theorem reedsolomonRoots.walk (q : Int) (w0 : (Lit.int .u8 q).wf = true) (k : Int) (w1 : (Lit.int .u8 k).wf = true) (w : World) :
    Calls Try.prog 9 #[.int .u8 q, .int .u8 k] w fun e w' => e = .returned (.bool true) ∧ Below w.heap.size w w' := by
  obtain ⟨Q, hQ, rfl⟩ := u8_of w0
  obtain ⟨K, hK, rfl⟩ := u8_of w1
  obtain ⟨p, hp⟩ : ∃ p, Q % 64 + 1 = p := ⟨_, rfl⟩
  obtain ⟨n, hn⟩ : ∃ n, K % 255 = n := ⟨_, rfl⟩
  have h1 : 1 ≤ p := by omega
  have h2 : p ≤ 64 := by omega
  have h3 : n < 255 := by omega
  have e1 : IntKind.i64.wrap ((Q : Int) % 64 + 1) = p := by rw [show (Q : Int) % 64 + 1 = p by omega]; exact IntWalk.i64_in _ (by omega)
  have e2 : (K : Int) % 255 = n := by omega
  have e3 : IntKind.i64.wrap ((p : Int) + 1) = (p : Int) + 1 := IntWalk.i64_in _ (by omega)
  have htop : (genB p)[p]?.getD 0 = 1 := (gen_top p).2
  obtain ⟨r, hr⟩ : ∃ r, evB (genB p) (F.expB n) = r := ⟨_, rfl⟩
  have hrt : ((r.toNat : Int) == 0) = decide (n < p) := by
    have := ev_gen p n h2 h3
    rw [hr] at this
    by_cases c : n < p
    · rw [this.2 c, decide_eq_true c]; rfl
    · rw [decide_eq_false c]; exact u8z r (fun e => c (this.1 e))
  obtain ⟨t, ht⟩ : ∃ t, decide (n < p) = t := ⟨_, rfl⟩
  rw [ht] at hrt
  have htt : (t == t) = true := beq_self_eq_true t
  have HR := Lib.hid hr
  have HTOP := Lib.hid htop
  clear hr w0 w1 hp hn htop
  go_enter Try.func9, Try.ntmps9
  go_wp2_with fail
  refine (gen_ok p h1 h2 _).mono ?_
  rintro e w1 ⟨g, cap, rfl, hg, hC, hc1, hc2, hB⟩
  have hco := hC.at p (by rw [gen_len]; omega)
  rw [HTOP.out] at hco
  have hco' : w1.cell? ⟨g, p, none⟩ = some (.int .u8 1) := hco
  have HC := Lib.hid hC
  have HB := Lib.hid hB
  clear hC hB hco
  go_wp2_with fail
  refine (rpow_any n (by omega) _).mono ?_
  rintro e w2 ⟨rfl, rfl⟩
  go_wp2_with fail
  have hev := eval_any (.slice (some ⟨g, 0, none⟩) (p + 1) cap) (genB p) (F.expB n) w1 (Sl.of_cells HC.out (Nat.zero_le _) (by rw [gen_len]; exact hc1) hc2 _ (gen_len p)) (by rw [gen_len]; omega)
  rw [HR.out] at hev
  refine hev.mono ?_
  rintro e w2 ⟨rfl, m, hm⟩
  have HB2 : Hid (Below w.heap.size w w2) := by rw [hm]; exact below_drewN HB.out _
  clear hm hev
  go_wp2_with fail
  refine (awake_any _).mono ?_
  rintro e w3 ⟨rfl, hB3⟩
  have HB3 := Lib.hid (bt HB2.out hB3)
  clear hB3
  go_wp2
  go_ret
  exact ⟨rfl, HB3.out⟩
end Go.Proofs.Ytjepedejclfnmaa
