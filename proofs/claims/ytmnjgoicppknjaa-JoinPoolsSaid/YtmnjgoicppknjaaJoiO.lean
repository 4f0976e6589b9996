/- Pools joined: the law walked, by what its two parts answer. No condition but these. -/
import Derived.Test.YtmnjgoicppknjaaPoolF
import Derived.Test.YtmnjgoicppknjaaJoiA
import Derived.Test.YtmnjgoicppknjaaJoiC
import Derived.Test.YtmnjgoicppknjaaEOf
namespace Go.Proofs.Ytmnjgoicppknjaa
open Go.ChangeShapes Go.WideShapes Go.ChangeAt Go.RowKit
set_option linter.unusedVariables false

theorem ebin_far {n f : Int} (h0 : 0 ≤ n) (h : n < f) : ebin n f = 0 := by
  unfold ebin
  split
  · rfl
  · rw [bin_gt (by omega)]; rfl
set_option maxRecDepth 20000 in
set_option maxHeartbeats 4000000 in
theorem JoinPools_core (A C E F : Option Addr) (ra ka rb kb n m k f : Int) (na nb nd nw ca cb ce cf : Nat) (w : World) (R : (Int × Int × List Int) × Int) (hR : R.1.2.2.length ≤ 1000000)
    (hn : -9223372036854775808 ≤ n ∧ n ≤ 9223372036854775807) (hm : -9223372036854775808 ≤ m ∧ m ≤ 9223372036854775807) (hk : -9223372036854775808 ≤ k ∧ k ≤ 9223372036854775807) (hf : -9223372036854775808 ≤ f ∧ f ≤ 9223372036854775807)
    (hp : ∀ u, Below w.heap.size w u → Calls Try.prog 15 #[PoolV ra ka (.slice A na ca), PoolV rb kb (.slice C nb cb), .slice E nd ce, .slice F nw cf] u fun e w' => (∃ v, e = .returned (.tuple #[v, .int .i64 R.2]) ∧ PoolIs w' v R.1) ∧ Below u.heap.size u w')
    (hg : ∀ u, Below w.heap.size w u → Calls Try.prog 16 #[PoolV ra ka (.slice A na ca), PoolV rb kb (.slice C nb cb), .slice E nd ce, .slice F nw cf] u fun e w' => (∃ v, e = .returned (.tuple #[v, .int .i64 R.2]) ∧ PoolIs w' v R.1) ∧ Below u.heap.size u w') :
    Calls Try.prog 3 #[PoolV ra ka (.slice A na ca), PoolV rb kb (.slice C nb cb), .slice E nd ce, .slice F nw cf, .int .i64 n, .int .i64 m, .int .i64 k, .int .i64 f] w fun e w' => e = .returned (.bool true) ∧ Below w.heap.size w w' := by
  have HP := Lib.hid hp
  have HG := Lib.hid hg
  have HC := Lib.hid (fun u => jcnt_any n m k f u hk.2)
  have HRL := Lib.hid hR
  have HRG := Lib.hid (And.intro hn (And.intro hm (And.intro hk hf)))
  clear hp hg hR hn hm hk hf
  obtain ⟨⟨pr, pk, pl⟩, pe⟩ := R
  go_enter Try.func3, Try.ntmps3
  go_wp2_with fail
  refine (HP.out _ (((Below.refl _ w).alloc (Nat.le_refl _) _).alloc (by simp) _)).mono ?_
  rintro e w1 ⟨⟨v1, rfl, hp1⟩, hb1⟩
  obtain ⟨A1, c1, rfl, s1⟩ := hp1
  dsimp only at s1
  have B8 : Hid (Blk w1 w.heap.size 24 (pcells ra ka (.slice A na ca))) := ((Blk.new w _ _).alloc _).below hb1 (by simp; omega)
  have B9 : Hid (Blk w1 (w.heap.size + 1) 24 (pcells rb kb (.slice C nb cb))) := by
    have h := Blk.new (w.alloc (.cells (pcells ra ka (.slice A na ca)) 24)) 24 (pcells rb kb (.slice C nb cb))
    rw [show (w.alloc (.cells (pcells ra ka (.slice A na ca)) 24)).heap.size = w.heap.size + 1 by simp] at h
    exact h.below hb1 (by simp)
  have HE1 : Hid (Below w.heap.size w w1) := (((Below.refl _ w).alloc (Nat.le_refl _) _).alloc (by simp) _).trans (hb1.mono (by simp; omega))
  have HP1 : Hid (PoolIs w1 (PoolV pr pk (.slice A1 pl.length c1)) (pr, pk, pl)) := ⟨A1, c1, rfl, s1⟩
  have x0 := B8.out.cell 0 (u := .int .i64 ra) rfl
  have x1 := B8.out.cell 1 (u := .int .i64 ka) rfl
  have x2 := B8.out.cell 2 (u := .slice A na ca) rfl
  have y0 := B9.out.cell 0 (u := .int .i64 rb) rfl
  have y1 := B9.out.cell 1 (u := .int .i64 kb) rfl
  have y2 := B9.out.cell 2 (u := .slice C nb cb) rfl
  have hl8 := B8.out.lt
  have hl9 := B9.out.lt
  clear hb1 s1
  dsimp only
  go_wp2_with fail
  skip --LOOK1
  refine (HG.out _ (HE1.out.alloc HE1.out.size _)).mono ?_
  rintro e w2 ⟨⟨v2, rfl, hp2⟩, hb2⟩
  obtain ⟨A2, c2, rfl, s2⟩ := hp2
  dsimp only at s2
  have D17 : Hid (Blk w2 w1.heap.size 24 (pcells pr pk (.slice A1 pl.length c1))) := (Blk.new w1 _ _).below hb2 (by simp)
  have HE2 : Hid (Below w1.heap.size w1 w2) := ((Below.refl _ _).alloc (Nat.le_refl _) _).trans (hb2.mono (by simp))
  have HP2 : Hid (PoolIs w2 (PoolV pr pk (.slice A2 pl.length c2)) (pr, pk, pl)) := ⟨A2, c2, rfl, s2⟩
  have HP1' : Hid (PoolIs w2 (PoolV pr pk (.slice A1 pl.length c1)) (pr, pk, pl)) := HP1.out.below HE2.out
  clear x0 x1 x2 y0 y1 y2 hl8 hl9 hb2 s2
  dsimp only
  go_wp2_with fail
  skip --LOOK2
  refine (HC.out _).mono ?_
  rintro e w3 ⟨rfl, d3, rfl⟩
  have HE3 : Hid (Below w2.heap.size w2 (w2.alloc (.cells (pcells pr pk (.slice A2 pl.length c2)) 24))) := (Below.refl _ _).alloc (Nat.le_refl _) _
  have B19 : Hid (Blk (w2.alloc (.cells (pcells pr pk (.slice A2 pl.length c2)) 24)) w2.heap.size 24 (pcells pr pk (.slice A2 pl.length c2))) := Blk.new _ _ _
  have B17 := Lib.hid (D17.out.below HE3.out D17.out.lt)
  have HQ1 := Lib.hid (HP1'.out.below HE3.out)
  have HQ2 := Lib.hid (HP2.out.below HE3.out)
  have HE4 : Hid (Below w.heap.size w (w2.alloc (.cells (pcells pr pk (.slice A2 pl.length c2)) 24))) := HE1.out.trans ((HE2.out.trans (HE3.out.mono HE2.out.size)).mono HE1.out.size)
  generalize hw4 : w2.alloc (.cells (pcells pr pk (.slice A2 pl.length c2)) 24) = w4 at *
  have x0 := B17.out.cell 0 (u := .int .i64 pr) rfl
  have x1 := B17.out.cell 1 (u := .int .i64 pk) rfl
  have x2 := B17.out.cell 2 (u := .slice A1 pl.length c1) rfl
  have y0 := B19.out.cell 0 (u := .int .i64 pr) rfl
  have y1 := B19.out.cell 1 (u := .int .i64 pk) rfl
  have y2 := B19.out.cell 2 (u := .slice A2 pl.length c2) rfl
  have hq : (pe != pe) = false := by simp
  clear hw4 HE3 HE2
  by_cases hb : jbad n m k f
  · have hv : jcntR n m k f = (0, 2) := if_pos hb
    rw [hv]
    clear hv
    go_wp2_with fail
    refine (same_refl _ _ _ _ (HQ1.out.below (below_drewN (Below.refl _ _) _)) (HQ2.out.below (below_drewN (Below.refl _ _) _)) HRL.out).mono ?_
    rintro e w5 ⟨rfl, hb5⟩
    have HB5 : Hid (Below w.heap.size w w5) := (below_drewN HE4.out _).trans (hb5.mono HE4.out.size)
    clear hb5 x0 x1 x2 y0 y1 y2
    unfold jbad at hb
    rcases (by omega : n < 0 ∨ (¬ n < 0 ∧ m < 0) ∨ (¬ n < 0 ∧ ¬ m < 0 ∧ 25 < n) ∨ (¬ n < 0 ∧ ¬ m < 0 ∧ ¬ 25 < n ∧ 25 < m) ∨ (¬ n < 0 ∧ ¬ m < 0 ∧ ¬ 25 < n ∧ ¬ 25 < m ∧ f < 0) ∨ (¬ n < 0 ∧ ¬ m < 0 ∧ ¬ 25 < n ∧ ¬ 25 < m ∧ ¬ f < 0 ∧ k < f)) with h | ⟨h, h1⟩ | ⟨h, h1, h2⟩ | ⟨h, h1, h2, h3⟩ | ⟨h, h1, h2, h3, h4⟩ | ⟨h, h1, h2, h3, h4, h5⟩
    all_goals
      clear hb
      go_wp2_with fail
      go_ret
      exact ⟨rfl, HB5.out⟩
  · have hv : jcntR n m k f = (ebin n f * ebin m (k - f), 0) := if_neg hb
    rw [hv]
    unfold jbad at hb
    have hgood : ¬ n < 0 ∧ ¬ m < 0 ∧ ¬ 25 < n ∧ ¬ 25 < m ∧ ¬ f < 0 ∧ ¬ k < f := by omega
    obtain ⟨g1, g2, g3, g4, g5, g6⟩ := hgood
    have hwk : wrap64 (k - f) = k - f := by have := HRG.out; unfold wrap64; omega
    have b1 := ebin_25 (n := n) (k := f) (by omega)
    have b2 := ebin_25 (n := m) (k := k - f) (by omega)
    have HO1 := Lib.hid (fun u => eof_any n f u (by omega))
    have HO2 := Lib.hid (fun u => eof_any m (k - f) u (by omega))
    have HZ : Hid (¬ (f ≤ n ∧ k - f ≤ m) → ebin n f * ebin m (k - f) = 0) := fun h => by
      by_cases h1 : f ≤ n
      · rw [ebin_far (n := m) (f := k - f) (by omega) (by omega), Int.mul_zero]
      · rw [ebin_far (n := n) (f := f) (by omega) (by omega), Int.zero_mul]
    clear hv hb
    generalize hP : ebin n f * ebin m (k - f) = p at *
    have hpb : 0 ≤ p ∧ p ≤ 1125899906842624 := by
      rw [← hP]
      have q1 : ebin n f * ebin m (k - f) ≤ 33554432 * ebin m (k - f) := Int.mul_le_mul_of_nonneg_right b1.2 b2.1
      exact ⟨Int.mul_nonneg b1.1 b2.1, by omega⟩
    generalize ebin n f = B1 at *
    generalize ebin m (k - f) = B2 at *
    have hwp : wrap64 (B1 * B2) = p := by rw [hP]; unfold wrap64; omega
    have hwq : IntKind.i64.wrap (B1 * B2) = p := by rw [hP]; exact IntWalk.i64_in _ (by omega)
    clear hP b1 b2
    go_wp2_with fail
    refine (same_refl _ _ _ _ (HQ1.out.below (below_drewN (Below.refl _ _) _)) (HQ2.out.below (below_drewN (Below.refl _ _) _)) HRL.out).mono ?_
    rintro e w5 ⟨rfl, hb5⟩
    have HB5 : Hid (Below w.heap.size w w5) := (below_drewN HE4.out _).trans (hb5.mono HE4.out.size)
    clear hb5 x0 x1 x2 y0 y1 y2
    rcases (by omega : (f ≤ n ∧ k - f ≤ m) ∨ (f ≤ n ∧ ¬ k - f ≤ m) ∨ ¬ f ≤ n) with ⟨h1, h2⟩ | ⟨h1, h2⟩ | h1
    · go_wp2_with fail
      skip --LOOK3
      refine (HO1.out _).mono ?_
      rintro e w6 ⟨rfl, hb6⟩
      have HB6 : Hid (Below w.heap.size w w6) := HB5.out.trans (hb6.mono HB5.out.size)
      clear hb6
      go_wp2_with fail
      refine (HO2.out _).mono ?_
      rintro e w7 ⟨rfl, hb7⟩
      have HB7 : Hid (Below w.heap.size w w7) := HB6.out.trans (hb7.mono HB6.out.size)
      clear hb7
      go_wp2_with fail
      go_ret
      exact ⟨rfl, HB7.out⟩
    · have hp0 : p = 0 := HZ.out (fun h => h2 h.2)
      subst hp0
      go_wp2_with fail
      go_ret
      exact ⟨rfl, HB5.out⟩
    · have hp0 : p = 0 := HZ.out (fun h => h1 h.1)
      subst hp0
      go_wp2_with fail
      go_ret
      exact ⟨rfl, HB5.out⟩
end Go.Proofs.Ytmnjgoicppknjaa
