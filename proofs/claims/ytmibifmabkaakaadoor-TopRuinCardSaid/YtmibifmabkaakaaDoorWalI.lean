/- The law WalkCounts: package walk's Between. No condition. -/
import Derived.Test.YtmibifmabkaakaaDoorWalH
namespace Go.Proofs.YtmibifmabkaakaaDoor
open Go.ChangeShapes Go.WideShapes Go.ChangeAt Go.RowKit
set_option linter.unusedVariables false

theorem bq_b {K top : Int} (h1 : -56 ≤ K) (h2 : K ≤ 56) (h3 : 1 ≤ top) (h4 : top ≤ 100) : -11200 ≤ 2 * K * top ∧ 2 * K * top ≤ 11200 := by
  have a1 : 2 * K * top ≤ 112 * 100 := by
    rcases (by omega : 0 ≤ K ∨ K < 0) with h | h
    · exact Int.mul_le_mul (by omega) h4 (by omega) (by omega)
    · have := Int.mul_nonneg (show 0 ≤ -(2 * K) by omega) (show 0 ≤ top by omega)
      rw [Int.neg_mul] at this
      omega
  have a2 : -(2 * K) * top ≤ 112 * 100 := by
    rcases (by omega : K ≤ 0 ∨ 0 < K) with h | h
    · exact Int.mul_le_mul (by omega) h4 (by omega) (by omega)
    · have := Int.mul_nonneg (show 0 ≤ 2 * K by omega) (show 0 ≤ top by omega)
      rw [Int.neg_mul]
      omega
  rw [Int.neg_mul] at a2
  omega
set_option maxRecDepth 20000 in
set_option maxHeartbeats 2000000 in
theorem between_any (n fr to top : Int) (w : World) : Calls Tryd.prog 19 #[.int .i64 n, .int .i64 fr, .int .i64 to, .int .i64 top] w (WOut (wrB n [fr, to, top]) (betV n.toNat fr to top) w) := by
  have K1 := wwrong_any n (some ⟨w.heap.size, 0, none⟩) [fr, to, top] 3 (w.alloc (.cells #[.int .i64 fr, .int .i64 to, .int .i64 top] 3)) (seg_lit w [fr, to, top] rfl) (by simp)
  have HB := Lib.hid ((Below.refl w.heap.size w).alloc (Nat.le_refl _) (.cells #[.int .i64 fr, .int .i64 to, .int .i64 top] 3))
  cases hb : wrB n [fr, to, top] with
  | true =>
    rw [hb] at K1
    have H1 := Lib.hid K1
    clear K1 hb
    go_enter Tryd.func19, Tryd.ntmps19
    go_wp2_with fail
    refine H1.out.mono ?_
    rintro e w1 ⟨rfl, rfl⟩
    go_wp2_with fail
    go_ret2
    exact ⟨rfl, HB.out⟩
  | false =>
    rw [hb] at K1
    have H1 := Lib.hid K1
    obtain ⟨⟨h1, h2⟩, ⟨h3, h4⟩, ⟨h5, h6⟩, h7, h8⟩ := wr3 hb
    obtain ⟨N, rfl⟩ : ∃ N : Nat, n = N := ⟨n.toNat, by omega⟩
    have HN := Lib.hid h2
    clear K1 hb h1
    rcases (by omega : fr < 1 ∨ (¬ fr < 1 ∧ to < 1) ∨ (¬ fr < 1 ∧ ¬ to < 1 ∧ top ≤ fr) ∨ (¬ fr < 1 ∧ ¬ to < 1 ∧ ¬ top ≤ fr ∧ top ≤ to) ∨ (¬ fr < 1 ∧ ¬ to < 1 ∧ ¬ top ≤ fr ∧ ¬ top ≤ to)) with g1 | ⟨g1, g2⟩ | ⟨g1, g2, g3⟩ | ⟨g1, g2, g3, g4⟩ | ⟨g1, g2, g3, g4⟩
    · have HV : Hid (betV N fr to top = 0) := if_pos (by omega)
      have b1 : decide (fr < 1) = true := decide_eq_true g1
      clear g1
      go_enter Tryd.func19, Tryd.ntmps19
      go_wp2_with fail
      refine H1.out.mono ?_
      rintro e w1 ⟨rfl, rfl⟩
      go_wp2_with fail
      go_ret2
      exact ⟨by rw [Int.toNat_natCast, HV.out]; rfl, HB.out⟩
    · have HV : Hid (betV N fr to top = 0) := if_pos (by omega)
      have b1 : decide (fr < 1) = false := decide_eq_false g1
      have b2 : decide (to < 1) = true := decide_eq_true g2
      clear g1 g2
      go_enter Tryd.func19, Tryd.ntmps19
      go_wp2_with fail
      refine H1.out.mono ?_
      rintro e w1 ⟨rfl, rfl⟩
      go_wp2_with fail
      go_ret2
      exact ⟨by rw [Int.toNat_natCast, HV.out]; rfl, HB.out⟩
    · have HV : Hid (betV N fr to top = 0) := if_pos (by omega)
      have b1 : decide (fr < 1) = false := decide_eq_false g1
      have b2 : decide (to < 1) = false := decide_eq_false g2
      have b3 : decide (top ≤ fr) = true := decide_eq_true g3
      clear g1 g2 g3
      go_enter Tryd.func19, Tryd.ntmps19
      go_wp2_with fail
      refine H1.out.mono ?_
      rintro e w1 ⟨rfl, rfl⟩
      go_wp2_with fail
      go_ret2
      exact ⟨by rw [Int.toNat_natCast, HV.out]; rfl, HB.out⟩
    · have HV : Hid (betV N fr to top = 0) := if_pos (by omega)
      have b1 : decide (fr < 1) = false := decide_eq_false g1
      have b2 : decide (to < 1) = false := decide_eq_false g2
      have b3 : decide (top ≤ fr) = false := decide_eq_false g3
      have b4 : decide (top ≤ to) = true := decide_eq_true g4
      clear g1 g2 g3 g4
      go_enter Tryd.func19, Tryd.ntmps19
      go_wp2_with fail
      refine H1.out.mono ?_
      rintro e w1 ⟨rfl, rfl⟩
      go_wp2_with fail
      go_ret2
      exact ⟨by rw [Int.toNat_natCast, HV.out]; rfl, HB.out⟩
    · have HV : Hid (betV N fr to top = betS N fr to top 113) := if_neg (by omega)
      have b1 : decide (fr < 1) = false := decide_eq_false g1
      have b2 : decide (to < 1) = false := decide_eq_false g2
      have b3 : decide (top ≤ fr) = false := decide_eq_false g3
      have b4 : decide (top ≤ to) = false := decide_eq_false g4
      have hn : N ≤ 56 := by omega
      have HNN := Lib.hid hn
      have htop : 1 ≤ top := by omega
      clear g1 g2 g3 g4
      go_enter Tryd.func19, Tryd.ntmps19
      go_wp2_with fail
      refine H1.out.mono ?_
      rintro e w1 ⟨rfl, rfl⟩
      go_wp2_with fail
      clear b1 b2 b3 b4
      go_loopw [10, 11] (fun s10 s11 wr => ∃ (j : Nat) (K : Int), s10 = .int .i64 (betS N fr to top j) ∧ s11 = .int .i64 K ∧ Hid (K = (j : Int) - 56 ∧ j ≤ 113) ∧ Hid (Below w.heap.size w wr)) (fun _ s11 _ => (57 - intOf s11).toNat)
      case atStart => exact ⟨0, -56, rfl, rfl, ⟨by omega, by omega⟩, HB.out⟩
      case round =>
        obtain ⟨j, K, rfl, rfl, hK, hbe⟩ := hrel
        by_cases hlt : j < 113
        · have p1 : -56 ≤ K := by have := hK.out; omega
          have p2 : K ≤ 56 := by have := hK.out; omega
          have b1 : decide (K ≤ 56) = true := decide_eq_true p2
          obtain ⟨q, hq⟩ : ∃ q, q = 2 * K * top := ⟨_, rfl⟩
          have hqb := bq_b p1 p2 htop h8
          rw [← hq] at hqb
          obtain ⟨p3, p4⟩ := hqb
          have e0 : 2 * K * top = q := hq.symm
          have hst : betS N fr to top (j + 1) = betS N fr to top j + (ffr N (to - fr + q) - ffr N (to + fr + q)) := by
            rw [hq, hK.out.1]; rfl
          have r1 := betS_b hn fr to top j
          have r2 := betS_b hn fr to top (j + 1)
          have r3 := ffr_b56 hn (to - fr + q)
          have r4 := ffr_b56 hn (to + fr + q)
          obtain ⟨x, hx⟩ : ∃ x, x = ffr N (to - fr + q) := ⟨_, rfl⟩
          obtain ⟨y, hy⟩ : ∃ y, y = ffr N (to + fr + q) := ⟨_, rfl⟩
          obtain ⟨S2, hS2⟩ : ∃ S2, S2 = betS N fr to top (j + 1) := ⟨_, rfl⟩
          rw [← hx] at r3 hst
          rw [← hy] at r4 hst
          rw [← hS2] at r2 hst
          generalize betS N fr to top j = S1 at *
          obtain ⟨t, ht⟩ : ∃ t, t = x - y := ⟨_, rfl⟩
          rw [← ht] at hst
          have HX := Lib.hid hx
          have HY := Lib.hid hy
          have HS2 := Lib.hid hS2
          have HLT := Lib.hid hlt
          have HP := Lib.hid (And.intro p1 p2)
          have HT : Hid (wrap64 t = t) := dw64 (by omega) (by omega)
          have HW2 : Hid (wrap64 S2 = S2) := dw64 (by omega) (by omega)
          have HWK : Hid (wrap64 (K + 1) = K + 1) := dw64 (by omega) (by omega)
          have e1 : x - y = t := ht.symm
          have e2 : S1 + t = S2 := hst.symm
          clear hx hy hS2 hlt hq ht hst r1 r2 r3 r4
          go_wp2_with fail
          refine (free_any N (to - fr + q) _ HNN.out (by omega) (by omega)).mono ?_
          rintro e w1 ⟨rfl, m, rfl⟩
          rw [← HX.out]
          go_wp2_with fail
          refine (free_any N (to + fr + q) _ HNN.out (by omega) (by omega)).mono ?_
          rintro e w1 ⟨rfl, m2, rfl⟩
          rw [← HY.out]
          have v1 := HT.out
          have v2 := HW2.out
          go_wp2_with fail
          clear v1 v2
          go_roundw
          case rel => exact ⟨j + 1, K + 1, (by rw [← HS2.out]; first | rfl | rw [HW2.out]), (by first | rfl | rw [HWK.out]), ⟨by have := hK.out; omega, HLT.out⟩, below_drewN hbe.out _⟩
          case measure => (try rw [HWK.out]); have := HP.out; simp [intOf]; omega
        · obtain rfl : j = 113 := by have := hK.out; omega
          have b1 : decide (K ≤ 56) = false := decide_eq_false (by have := hK.out; omega)
          go_wp2_with fail
          go_ret2
          exact ⟨by rw [Int.toNat_natCast, HV.out]; rfl, hbe.out⟩
end Go.Proofs.YtmibifmabkaakaaDoor
