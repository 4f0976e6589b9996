/- Package stats, the middle: the law walked. Printed by midgen.py. No condition but the slices' own sizes. -/
import Derived.Test.YtmnjgoicppknjaaMidY
import Derived.Test.YtmnjgoicppknjaaStaJ
namespace Go.Proofs.Ytmnjgoicppknjaa
open Go.ChangeShapes Go.WideShapes Go.ChangeAt Go.RowKit
set_option linter.unusedVariables false

theorem mid_facts {n K1 K2 : Nat} (h1 : K1 = (n - 1) / 2) (h2 : K2 = n / 2) (h0 : 0 < n) (h4 : n ≤ 400) :
    ((n : Int) - 1) / 2 = (K1 : Int) ∧ (n : Int) / 2 = (K2 : Int) ∧ Int.tdiv ((n : Int) - 1) 2 = (K1 : Int) ∧ Int.tdiv (n : Int) 2 = (K2 : Int) ∧ IntKind.i64.wrap ((n : Int) - 1) = (n : Int) - 1 ∧ IntKind.i64.wrap (K1 : Int) = (K1 : Int) ∧ IntKind.i64.wrap (K2 : Int) = (K2 : Int) ∧
    wrap64 ((n : Int) - 1) = (n : Int) - 1 ∧ wrap64 (K1 : Int) = (K1 : Int) ∧ wrap64 (K2 : Int) = (K2 : Int) := by
  refine ⟨by omega, by omega, by rw [Int.tdiv_eq_ediv_of_nonneg (by omega)]; omega, by rw [Int.tdiv_eq_ediv_of_nonneg (by omega)]; omega, IntWalk.i64_in _ (by omega), IntWalk.i64_in _ (by omega), IntWalk.i64_in _ (by omega), ?_, ?_, ?_⟩
  · unfold wrap64; omega
  · unfold wrap64; omega
  · unfold wrap64; omega
theorem mid_sum {a b : Int} (h1 : -1048576 ≤ a ∧ a ≤ 1048576) (h2 : -1048576 ≤ b ∧ b ≤ 1048576) : IntKind.i64.wrap (a + b) = a + b ∧ wrap64 (a + b) = a + b :=
  ⟨IntWalk.i64_in _ (by omega), by unfold wrap64; omega⟩
theorem w64_in {v : Int} (h : -9223372036854775808 ≤ v ∧ v ≤ 9223372036854775807) : wrap64 v = v := by unfold wrap64; omega
set_option maxRecDepth 20000 in
set_option maxHeartbeats 4000000 in
theorem StatsMiddle_core (A C : Option Addr) (x y : List Int) (c d : Nat) (w : World) (hx : Seg w w.heap.size A (x.map (.int .i64))) (hy : Seg w w.heap.size C (y.map (.int .i64))) (hxl : x.length ≤ 9223372036854775807) (hyl : y.length ≤ 9223372036854775807) :
    Calls Try.prog 12 #[.slice A x.length c, .slice C y.length d] w fun e w' => e = .returned (.bool true) ∧ Below w.heap.size w w' := by
  have HX := Lib.hid hx
  have HY := Lib.hid hy
  have HDL := Lib.hid (And.intro hxl hyl)
  clear hx hy hxl hyl
  go_enter Try.func12, Try.ntmps12
  go_wp2_with fail
  have HB0 : Hid (Below w.heap.size w (w.alloc (.cells #[.slice A x.length c] 22))) := (Below.refl _ _).alloc (Nat.le_refl _) _
  refine (median_any A x c _ ((HX.out.below HB0.out).more HB0.out.size)).mono ?_
  rintro e w1 ⟨rfl, hb1⟩
  have B2 : Hid (Blk w1 w.heap.size 22 #[.slice A x.length c]) := (Blk.new w _ _).below hb1 (by simp)
  have HB1 : Hid (Below w.heap.size w w1) := HB0.out.trans (hb1.mono (by simp))
  clear hb1
  have q0 := B2.out.cell 0 rfl
  go_wp2_with fail
  refine (both_any A C x y c d w1 ((HX.out.below HB1.out).more HB1.out.size) ((HY.out.below HB1.out).more HB1.out.size)).mono ?_
  rintro e w2 ⟨rfl, hb2⟩
  have B3 : Hid (Blk w2 w.heap.size 22 #[.slice A x.length c]) := B2.out.below hb2 B2.out.lt
  have HBE : Hid (Below w.heap.size w w2) := HB1.out.trans (hb2.mono HB1.out.size)
  have HSX : Hid (Seg w2 w2.heap.size A (x.map (.int .i64))) := (HX.out.below HBE.out).more HBE.out.size
  have HSY : Hid (Seg w2 w2.heap.size C (y.map (.int .i64))) := (HY.out.below HBE.out).more HBE.out.size
  clear hb2 q0
  have q0 := B3.out.cell 0 rfl
  go_wp2_with fail
  refine (pwrong_any A x c _ HSX.out (by have := HDL.out; omega)).mono ?_
  rintro e w' ⟨rfl, rfl⟩
  by_cases px : prt x
  · have hp : pwr x = false := by unfold pwr; rw [decide_eq_true (show x.length ≤ 400 ∧ sall x from px)]; rfl
    rw [hp]
    by_cases h0 : x.length = 0
    · have hv : medR x = (0, 3) := by unfold medR; rw [if_pos px, if_pos h0]
      have he : ((x.length : Int) == 0) = true := by simp [h0]
      rw [hv]
      clear hv hp h0
      go_wp2_with fail
      refine (pwrong_any C y d _ HSY.out (by have := HDL.out; omega)).mono ?_
      rintro e w' ⟨rfl, rfl⟩
      by_cases py : prt y
      · have hq : pwr y = false := by unfold pwr; rw [decide_eq_true (show y.length ≤ 400 ∧ sall y from py)]; rfl
        rw [hq]
        by_cases hl : x.length = y.length
        · have hv : bothR x y = ((x.length : Int) * xsum x y x.length - ssum x * ssum y, 0) := by unfold bothR; rw [if_pos px, if_pos py, if_pos hl]
          have hne : ((x.length : Int) != (y.length : Int)) = false := by rw [hl]; simp
          have hpb : Hid (pbo x y x.length = (x.length : Int) * xsum x y x.length - ssum x * ssum y) := by unfold Hid; rw [pbo_eq, psm_all, hl, psm_all]
          have HLE := Lib.hid hl
          have HPB := Lib.hid (pboth_any A C x y c d _ HSX.out HSY.out hl px.1 px.2 py.2)
          rw [hpb.out] at HPB
          rw [hv]
          generalize hT : (x.length : Int) * xsum x y x.length - ssum x * ssum y = T at *
          clear hT hv hl hq py px
          go_wp2_with fail
          refine HPB.out.mono ?_
          rintro e w' ⟨rfl, n9, rfl⟩
          go_wp2_with fail
          go_ret
          exact ⟨rfl, below_drewN HBE.out _⟩
        · have hv : bothR x y = (0, 1) := by unfold bothR; rw [if_pos px, if_pos py, if_neg hl]
          have hne : ((x.length : Int) != (y.length : Int)) = true := by simp; omega
          rw [hv]
          clear hv hl hq py px
          go_wp2_with fail
          go_ret
          exact ⟨rfl, HBE.out⟩
      · have hq : pwr y = true := by unfold pwr; rw [decide_eq_false (show ¬ (y.length ≤ 400 ∧ sall y) from py)]; rfl
        have hv : bothR x y = (0, 2) := by unfold bothR; rw [if_pos px, if_neg py]
        rw [hq, hv]
        clear hq hv py px
        go_wp2_with fail
        go_ret
        exact ⟨rfl, HBE.out⟩
    · obtain ⟨P1, hP1⟩ : ∃ v, v = pat (isort x) ((x.length - 1) / 2) := ⟨_, rfl⟩
      obtain ⟨P2, hP2⟩ : ∃ v, v = pat (isort x) (x.length / 2) := ⟨_, rfl⟩
      obtain ⟨K1, hK1⟩ : ∃ k, k = (x.length - 1) / 2 := ⟨_, rfl⟩
      obtain ⟨K2, hK2⟩ : ∃ k, k = x.length / 2 := ⟨_, rfl⟩
      have hpb1 : Hid (sall (isort x)) := fun v hv => px.2 v ((isort_perm x).mem_iff.1 hv)
      have b1 : -1048576 ≤ P1 ∧ P1 ≤ 1048576 := by rw [hP1]; exact sall_pat hpb1.out _
      have b2 : -1048576 ≤ P2 ∧ P2 ≤ 1048576 := by rw [hP2]; exact sall_pat hpb1.out _
      have hv : medR x = (P1 + P2, 0) := by unfold medR; rw [if_pos px, if_neg h0, hP1, hP2]
      have HM1 : Hid (midF x (K1 : Int) x = P1) := by rw [hP1, hK1]; exact midF_all x (by clear hP1 hP2 hv b1 b2; omega)
      have HM2 : Hid (midF x (K2 : Int) x = P2) := by rw [hP2, hK2]; exact midF_all x (by clear hP1 hP2 hv b1 b2; omega)
      rw [hv]
      clear hP1 hP2 hv hp
      have he : ((x.length : Int) == 0) = false := by simp [h0]
      have hl4 := px.1
      have HAT : Hid (∀ (k : Int) (n : Nat), Calls Try.prog 103 #[.int .i64 k, .pointer (some ⟨w.heap.size, 0, none⟩)] (w2.drewN n) fun e w' => e = .returned (.int .i64 (midF x k x)) ∧ w' = w2.drewN n) :=
        fun k n => by
          have hc : (w2.drewN n).cell? ⟨w.heap.size, 0, none⟩ = some (.slice A x.length c) := (Blk.drewN B3.out n).cell 0 (u := .slice A x.length c) rfl
          have hs : Seg (w2.drewN n) (w2.drewN n).heap.size A (x.map (.int .i64)) := Seg.drewN HSX.out n
          exact at_any w.heap.size A x c k (w2.drewN n) hc hs hl4
      obtain ⟨k1, k2, k3, k4, v1, v2, v3, u1, u2, u3⟩ := mid_facts hK1 hK2 (Nat.pos_of_ne_zero h0) hl4
      obtain ⟨v4, u4⟩ := mid_sum b1 b2
      have HC1 := Lib.hid (HAT.out (K1 : Int))
      have HC2 := Lib.hid (HAT.out (K2 : Int))
      rw [HM1.out] at HC1
      rw [HM2.out] at HC2
      have hnn : (P1 + P2 != P1 + P2) = false := by simp
      have HPX := Lib.hid px
      clear b1 b2 hK1 hK2 px hl4 h0
      go_wp2_with fail
      go_quiet (first | (go_at_call_of 103 (Value.int .i64 (K1 : Int)); exact Calls.quiet_of_same (HC1.out _)) | (go_at_call_of 103 (Value.int .i64 (K2 : Int)); exact Calls.quiet_of_same (HC2.out _)))
      go_wp2_with fail
      have px := HPX.out
      refine (pwrong_any C y d _ (HSY.out.drewN _) (by have := HDL.out; omega)).mono ?_
      rintro e w' ⟨rfl, rfl⟩
      by_cases py : prt y
      · have hq : pwr y = false := by unfold pwr; rw [decide_eq_true (show y.length ≤ 400 ∧ sall y from py)]; rfl
        rw [hq]
        by_cases hl : x.length = y.length
        · have hv : bothR x y = ((x.length : Int) * xsum x y x.length - ssum x * ssum y, 0) := by unfold bothR; rw [if_pos px, if_pos py, if_pos hl]
          have hne : ((x.length : Int) != (y.length : Int)) = false := by rw [hl]; simp
          have hpb : Hid (pbo x y x.length = (x.length : Int) * xsum x y x.length - ssum x * ssum y) := by unfold Hid; rw [pbo_eq, psm_all, hl, psm_all]
          have HLE := Lib.hid hl
          have HPB := Lib.hid (fun n => pboth_any A C x y c d (w2.drewN n) (HSX.out.drewN n) (HSY.out.drewN n) hl px.1 px.2 py.2)
          rw [hpb.out] at HPB
          rw [hv]
          generalize hT : (x.length : Int) * xsum x y x.length - ssum x * ssum y = T at *
          clear hT hv hl hq py px
          go_wp2_with fail
          refine (HPB.out _).mono ?_
          rintro e w' ⟨rfl, n9, rfl⟩
          go_wp2_with fail
          go_ret
          exact ⟨rfl, below_drewN HBE.out _⟩
        · have hv : bothR x y = (0, 1) := by unfold bothR; rw [if_pos px, if_pos py, if_neg hl]
          have hne : ((x.length : Int) != (y.length : Int)) = true := by simp; omega
          rw [hv]
          clear hv hl hq py px
          go_wp2_with fail
          go_ret
          exact ⟨rfl, below_drewN HBE.out _⟩
      · have hq : pwr y = true := by unfold pwr; rw [decide_eq_false (show ¬ (y.length ≤ 400 ∧ sall y) from py)]; rfl
        have hv : bothR x y = (0, 2) := by unfold bothR; rw [if_pos px, if_neg py]
        rw [hq, hv]
        clear hq hv py px
        go_wp2_with fail
        go_ret
        exact ⟨rfl, below_drewN HBE.out _⟩
  · have hp : pwr x = true := by unfold pwr; rw [decide_eq_false (show ¬ (x.length ≤ 400 ∧ sall x) from px)]; rfl
    have hv : medR x = (0, 2) := by unfold medR; rw [if_neg px]
    have hv2 : bothR x y = (0, 2) := by unfold bothR; rw [if_neg px]
    rw [hp, hv, hv2]
    clear hp hv hv2 px
    go_wp2_with fail
    go_ret
    exact ⟨rfl, HBE.out⟩
end Go.Proofs.Ytmnjgoicppknjaa
