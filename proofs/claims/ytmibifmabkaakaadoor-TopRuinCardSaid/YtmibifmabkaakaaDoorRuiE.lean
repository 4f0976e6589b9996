/- Package ruin: Well walked. No condition. -/
import Derived.Test.YtmibifmabkaakaaDoorRuiD
namespace Go.Proofs.YtmibifmabkaakaaDoor
open Go.ChangeShapes Go.WideShapes Go.ChangeAt Go.RowKit
set_option linter.unusedVariables false

theorem rsum_up (a b h t k : Nat) (hk : k ≤ h) (ht : h ≤ t) : rsum a b t k = rsum a b h k * a ^ (t - h) := by
  induction k with
  | zero => simp [rsum]
  | succ k ih =>
    rw [rsum, rsum, ih (by omega), Nat.add_mul, show t - 1 - k = (h - 1 - k) + (t - h) by omega, Nat.pow_add]
    congr 1
    rw [Nat.mul_assoc, Nat.mul_assoc, Nat.mul_comm (b ^ k)]
theorem rsum_pos {a b n : Nat} (h1 : 1 ≤ a) (k : Nat) (hk : 0 < k) : 0 < rsum a b n k := by
  cases k with
  | zero => omega
  | succ k =>
    clear hk
    induction k with
    | zero => simp [rsum]; exact Nat.pow_pos (by omega)
    | succ k ih => rw [rsum]; omega
theorem rwrap {K : Nat} (h : K ≤ 16) : wrap64 (K : Int) = (K : Int) := by unfold wrap64; omega
/-- How likely it is: two numbers, not in lowest terms. -/
def wellN (p q t h : Nat) : Nat := rsum (p / Nat.gcd p q) (q / Nat.gcd p q) t h
def wellV (win lose top has : Int) : (Int × Int) × Int :=
  if wbad win lose top then ((0, 0), 2) else if has < 0 ∨ top < has then ((0, 0), 3)
  else (((wellN win.toNat lose.toNat top.toNat has.toNat / Nat.gcd (wellN win.toNat lose.toNat top.toNat has.toNat) (wellN win.toNat lose.toNat top.toNat top.toNat) : Nat), (wellN win.toNat lose.toNat top.toNat top.toNat / Nat.gcd (wellN win.toNat lose.toNat top.toNat has.toNat) (wellN win.toNat lose.toNat top.toNat top.toNat) : Nat)), 0)
theorem ret_frac {r : (Int × Int) × Int} {a b d : Int} (h : r = ((a, b), d)) : Ending.returned (.tuple #[FracV a b, .int .i64 d]) = .returned (.tuple #[FracV r.1.1 r.1.2, .int .i64 r.2]) := by rw [h]
set_option maxRecDepth 20000 in
set_option maxHeartbeats 4000000 in
theorem well_any (win lose top has : Int) (w : World) :
    Calls Tryd.prog 21 #[.int .i64 win, .int .i64 lose, .int .i64 top, .int .i64 has] w fun e w' => e = .returned (.tuple #[FracV (wellV win lose top has).1.1 (wellV win lose top has).1.2, .int .i64 (wellV win lose top has).2]) ∧ Below w.heap.size w w' := by
  have HB0 := Lib.hid (Blk.new w tF (fcs 0 0))
  have HBL : Hid (Below w.heap.size w (w.alloc (.cells (fcs 0 0) tF))) := (Below.refl _ _).alloc (Nat.le_refl _) _
  by_cases hb : wbad win lose top
  · have hf : Hid (wellV win lose top has = ((0, 0), 2)) := if_pos hb
    have HW := Lib.hid (fun u => wrong_bad win lose top u hb)
    clear hb
    go_enter Tryd.func21, Tryd.ntmps21
    go_wp2_with fail
    refine (HW.out _).mono ?_
    rintro e w1 ⟨rfl, rfl⟩
    go_wp2_with (first | (refine wpList_store_blk rfl _ _ _ rfl w.heap.size (fcs 0 0) rfl rfl tF (fcs 0 0) HB0.out (by kernel_rfl) rfl (fcs_one _ _) ?_; intro w2 hb2 hg2 hs2; have HB2 := Lib.hid hb2; have HG2 := Lib.hid hg2; clear hs2 hb2 hg2) | fail)
    refine bodyPost_ret (v := .tuple #[FracV 0 0, .int .i64 2]) (results_ct (a := 9) Tryd.results21 _ rfl HB2.out Tryd.underlying44 rfl (by kernel_rfl)) rfl ⟨ret_frac hf.out, ?_⟩
    exact HBL.out.grown HG2.out HBL.out.size (fun k hk => by injection hk with hk; omega)
  have HW := Lib.hid (fun u => wrong_ok win lose top u hb)
  by_cases hn : has < 0 ∨ top < has
  · have hf : Hid (wellV win lose top has = ((0, 0), 3)) := by unfold Hid wellV; rw [if_neg hb, if_pos hn]
    clear hb
    rcases (by omega : has < 0 ∨ (¬ has < 0 ∧ top < has)) with h1 | ⟨h0, h1⟩
    all_goals
      clear hn
      go_enter Tryd.func21, Tryd.ntmps21
      go_wp2_with fail
      refine (HW.out _).mono ?_
      rintro e w1 ⟨rfl, rfl⟩
      go_wp2_with (first | (refine wpList_store_blk rfl _ _ _ rfl w.heap.size (fcs 0 0) rfl rfl tF (fcs 0 0) HB0.out (by kernel_rfl) rfl (fcs_one _ _) ?_; intro w2 hb2 hg2 hs2; have HB2 := Lib.hid hb2; have HG2 := Lib.hid hg2; clear hs2 hb2 hg2) | fail)
      refine bodyPost_ret (v := .tuple #[FracV 0 0, .int .i64 3]) (results_ct (a := 9) Tryd.results21 _ rfl HB2.out Tryd.underlying44 rfl (by kernel_rfl)) rfl ⟨ret_frac hf.out, ?_⟩
      exact HBL.out.grown HG2.out HBL.out.size (fun k hk => by injection hk with hk; omega)
  · have hbb := Lib.hid hb
    have hnn := Lib.hid hn
    unfold wbad at hb
    obtain ⟨p, rfl⟩ : ∃ p : Nat, win = p := ⟨win.toNat, by omega⟩
    obtain ⟨q, rfl⟩ : ∃ q : Nat, lose = q := ⟨lose.toNat, by omega⟩
    obtain ⟨t, rfl⟩ : ∃ t : Nat, top = t := ⟨top.toNat, by omega⟩
    obtain ⟨h, rfl⟩ : ∃ h : Nat, has = h := ⟨has.toNat, by omega⟩
    obtain ⟨g, hg⟩ : ∃ g, g = Nat.gcd p q := ⟨_, rfl⟩
    have gp : 0 < g := by rw [hg]; exact Nat.gcd_pos_of_pos_left _ (by omega)
    have gd1 : g ∣ p := by rw [hg]; exact Nat.gcd_dvd_left _ _
    have gd2 : g ∣ q := by rw [hg]; exact Nat.gcd_dvd_right _ _
    obtain ⟨a, ha⟩ : ∃ a, a = p / g := ⟨_, rfl⟩
    obtain ⟨b, hb'⟩ : ∃ b, b = q / g := ⟨_, rfl⟩
    have a1 : 1 ≤ a := by rw [ha]; exact Nat.div_pos (Nat.le_of_dvd (by omega) gd1) gp
    have b1 : 1 ≤ b := by rw [hb']; exact Nat.div_pos (Nat.le_of_dvd (by omega) gd2) gp
    have a9 : a ≤ 9 := by have := Nat.div_le_self p g; omega
    have b9 : b ≤ 9 := by have := Nat.div_le_self q g; omega
    have hn1 : h ≤ t := by omega
    have ht1 : t ≤ 16 := by omega
    have ht0 : 0 < t := by omega
    have i1 : ¬ (h : Int) < 0 := by omega
    have i2 : ¬ (t : Int) < (h : Int) := by omega
    obtain ⟨K, hK⟩ : ∃ K, K = t - h := ⟨_, rfl⟩
    have iK : (t : Int) - (h : Int) = (K : Int) := by omega
    have uK : Hid (wrap64 (K : Int) = (K : Int)) := rwrap (K := K) (by omega)
    have q1 := rquo (c := p) gp
    have q2 := rquo (c := q) gp
    rw [← ha] at q1
    rw [← hb'] at q2
    have hz : ¬ (g : Int) = 0 := by omega
    have u1 : IntKind.i64.wrap (a : Int) = (a : Int) := IntWalk.i64_in _ (by omega)
    have u2 : IntKind.i64.wrap (b : Int) = (b : Int) := IntWalk.i64_in _ (by omega)
    have HC := Lib.hid (fun u => rgcd_any p q u (by omega) (by omega))
    have hmul := rsum_up a b h t h (Nat.le_refl _) hn1
    have bN0 := rsum_le a1 a9 b1 b9 ht1 h hn1
    have bD0 := rsum_le a1 a9 b1 b9 ht1 t (Nat.le_refl _)
    have pD := rsum_pos (b := b) (n := t) a1 t ht0
    have hr1 := fun u => row_any a b h u a1 a9 b1 b9 (Nat.le_trans hn1 ht1)
    have hr2 := fun u => row_any a b t u a1 a9 b1 b9 ht1
    have hpw := fun u => rpow_any a K u a1 a9 (by omega)
    have hfin : wellV p q t h = ((((rsum a b t h / Nat.gcd (rsum a b t h) (rsum a b t t) : Nat) : Int), ((rsum a b t t / Nat.gcd (rsum a b t h) (rsum a b t t) : Nat) : Int)), 0) := by
      unfold wellV; rw [if_neg hbb.out, if_neg hnn.out]; simp only [wellN, Int.toNat_natCast, ← hg, ← ha, ← hb']
    obtain ⟨N, eN⟩ : ∃ N, N = rsum a b t h := ⟨_, rfl⟩
    obtain ⟨D, eD⟩ : ∃ D, D = rsum a b t t := ⟨_, rfl⟩
    obtain ⟨R, eR⟩ : ∃ R, R = rsum a b h h := ⟨_, rfl⟩
    obtain ⟨P, eP⟩ : ∃ P, P = a ^ K := ⟨_, rfl⟩
    rw [← hK, ← eN, ← eR, ← eP] at hmul
    rw [← eN] at bN0
    rw [← eD] at bD0 pD
    rw [← eN, ← eD] at hfin
    simp only [← eR] at hr1
    simp only [← eD] at hr2
    simp only [← eP] at hpw
    have HR1 := Lib.hid hr1
    have HR2 := Lib.hid hr2
    have HPw := Lib.hid hpw
    have HFin := Lib.hid hfin
    clear eN eD eR eP hr1 hr2 hpw hfin
    have HL := Lib.hid (fun u => low_any N D u (by omega) (by omega) pD)
    have hst : Hid ((R : Int) * (P : Int) = (N : Int)) := by unfold Hid; rw [hmul]; exact (Int.natCast_mul _ _).symm
    have HU : Hid (wrap64 (N : Int) = (N : Int)) := by unfold Hid wrap64; omega
    have HG := Lib.hid hg
    clear hb hn hg gp gd1 gd2 ha hb' a1 b1 a9 b9 hn1 ht1 ht0 hK bN0 bD0 pD hmul hbb hnn
    go_enter Tryd.func21, Tryd.ntmps21
    go_wp2_with fail
    refine (HW.out _).mono ?_
    rintro e w1 ⟨rfl, rfl⟩
    go_wp2_with fail
    refine (HC.out _).mono ?_
    rintro e w1 ⟨rfl, n, rfl⟩
    rw [← HG.out]
    go_wp2_with fail
    go_quiet (fail)
    go_wp2_with fail
    --LOOK1
    refine (HR1.out _).mono ?_
    rintro e w1 ⟨rfl, rfl⟩
    go_wp2_with fail
    --LOOK1b
    rw [uK.out]
    refine (HPw.out _).mono ?_
    rintro e w1 ⟨rfl, rfl⟩
    go_wp2_with fail
    refine (HR2.out _).mono ?_
    rintro e w1 ⟨rfl, rfl⟩
    go_wp2_with fail
    --LOOK2
    rw [hst.out, HU.out]
    refine (HL.out _).mono ?_
    rintro e w1 ⟨rfl, hb3⟩
    have HB3 : Hid (Blk w1 w.heap.size tF (fcs 0 0)) := (HB0.out.drewN _).below hb3 (by simp)
    have HB4 : Hid (Below w.heap.size w w1) := (below_drewN HBL.out _).trans (hb3.mono (by simp))
    clear hb3
    go_wp2_with (first | (refine wpList_store_blk rfl _ _ _ rfl w.heap.size (fcs _ _) rfl rfl tF (fcs 0 0) HB3.out (by kernel_rfl) rfl (fcs_one _ _) ?_; intro w2 hb2 hg2 hs2; have HB2 := Lib.hid hb2; have HG2 := Lib.hid hg2; clear hs2 hb2 hg2) | fail)
    refine bodyPost_ret (v := .tuple #[FracV _ _, .int .i64 0]) (results_ct (a := 9) Tryd.results21 _ rfl HB2.out Tryd.underlying44 rfl (by kernel_rfl)) rfl ⟨ret_frac HFin.out, ?_⟩
    exact HB4.out.grown HG2.out HB4.out.size (fun k hk => by injection hk with hk; omega)
end Go.Proofs.YtmibifmabkaakaaDoor
