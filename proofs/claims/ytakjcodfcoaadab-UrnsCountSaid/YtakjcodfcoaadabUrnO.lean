/- The reference's VOnto walked. No condition. -/
import Derived.Test.YtakjcodfcoaadabUrnV
namespace Go.Proofs.Ytakjcodfcoaadab
open Go.ChangeShapes Go.WideShapes Go.ChangeAt Go.RowKit

set_option maxRecDepth 20000 in
set_option maxHeartbeats 2000000 in
theorem vonto_any (N K : Nat) (w : World) (hN : N ≤ 14) (hK : K ≤ N) : Calls Try.prog 34 #[.int .i64 N, .int .i64 K] w fun e w' => e = .returned (.int .i64 (onto N K : Nat)) ∧ Below w.heap.size w w' := by
  have HF : Hid (vsum N K (K + 1) = (onto N K : Nat)) := vsum_onto0 ⟨N, by omega⟩ ⟨K, by omega⟩ hK
  go_enter Try.func34, Try.ntmps34
  go_wp2_with fail
  go_loopw [7, 5, 6] (fun s7 s5 s6 wr => ∃ (i : Nat) (j g : Int), i ≤ K + 1 ∧ (j + (i : Int) = (K : Int)) ∧ s7 = .int .i64 j ∧ s5 = .int .i64 (vsum N K i) ∧ s6 = .int .i64 g ∧ -1 ≤ g ∧ g ≤ 1 ∧ Hid (g = if i % 2 = 0 then 1 else -1) ∧ Below w.heap.size w wr) (fun s7 _ _ _ => (intOf s7 + 1).toNat)
  case atStart => exact ⟨0, K, 1, by omega, by omega, rfl, rfl, rfl, by omega, by omega, rfl, Below.refl _ _⟩
  case round =>
    obtain ⟨i, j, g, hi, hj, rfl, rfl, rfl, hg1, hg2, hg, hb⟩ := hrel
    have HB := Lib.hid hb
    have HJ := Lib.hid hj
    clear hb
    by_cases hlt : i ≤ K
    · obtain ⟨J, rfl⟩ : ∃ J : Nat, j = J := ⟨j.toNat, by omega⟩
      have hJ : J = K - i := by omega
      have hJ14 : J ≤ 14 := by omega
      have HJJ := Lib.hid hJ
      obtain ⟨b1, b2⟩ := vsum_small0 ⟨N, by omega⟩ ⟨K, by omega⟩ ⟨i, by omega⟩ hK (by simp; omega)
      obtain ⟨b3, b4⟩ := vsum_small0 ⟨N, by omega⟩ ⟨K, by omega⟩ ⟨i + 1, by omega⟩ hK (by simp; omega)
      have b5 : bin K J ≤ 3432 := vterm_small0 ⟨K, by omega⟩ ⟨J, by omega⟩
      simp only at b1 b2 b3 b4
      have HX : Hid (vsum N K (i + 1) = vsum N K i + g * (bin K J : Nat) * (J ^ N : Nat)) := by
        unfold Hid
        rw [hg.out, HJJ.out]; rfl
      have HG : Hid (-g = if (i + 1) % 2 = 0 then 1 else -1) := by
        unfold Hid; rw [hg.out]
        by_cases h : i % 2 = 0
        · rw [if_pos h, if_neg (by omega)]
        · rw [if_neg h, if_pos (by omega)]; rfl
      have p1 : -1152921504606846976 + -1152921504606846976 ≤ g * (bin K J : Nat) * (J ^ N : Nat) := by have := HX.out; omega
      have p2 : g * (bin K J : Nat) * (J ^ N : Nat) ≤ 1152921504606846976 + 1152921504606846976 := by have := HX.out; omega
      have p3 : -3432 ≤ g * (bin K J : Nat) ∧ g * (bin K J : Nat) ≤ 3432 := by
        have : g = 1 ∨ g = 0 ∨ g = -1 := by omega
        rcases this with rfl | rfl | rfl <;> omega
      obtain ⟨p4, p5⟩ := p3
      have HP : Hid (∀ q, q ≤ N → J ^ q ≤ 1152921504606846976) := fun q hq => vpow_small0 ⟨q, by omega⟩ ⟨J, by omega⟩
      clear b3 b4 hJ hj
      generalize hv : vsum N K i = v at *
      generalize hz : bin K J = z at *
      have HZ := Lib.hid hz
      clear hv hz
      obtain ⟨wo, rfl⟩ : ∃ wo : World, wo = wr := ⟨_, rfl⟩
      have P1 := Lib.hid p1
      have P2 := Lib.hid p2
      clear p1 p2
      go_wp2_with fail
      go_loop [15, 8] (fun s15 s8 => ∃ q : Nat, q ≤ N ∧ s15 = .int .i64 q ∧ s8 = .int .i64 (J ^ q : Nat)) (fun s15 _ => N - (intOf s15).toNat)
      case atStart => exact ⟨0, Nat.zero_le _, rfl, rfl⟩
      case round =>
        obtain ⟨q, hq, rfl, rfl⟩ := hrel
        by_cases hqn : q < N
        · have c1 := HP.out q hq
          have c2 := HP.out (q + 1) (by omega)
          have HE : Hid (((J ^ q : Nat) : Int) * (J : Int) = (J ^ (q + 1) : Nat)) := by unfold Hid; rw [Nat.pow_succ, Int.natCast_mul]
          have c3 : ((J ^ q : Nat) : Int) * (J : Int) ≤ 1152921504606846976 := by rw [HE.out]; omega
          have c4 : 0 ≤ ((J ^ q : Nat) : Int) * (J : Int) := by rw [HE.out]; omega
          clear c2
          generalize hp : J ^ q = p at *
          clear hp
          go_wp2_with fail
          go_round
          case rel => exact ⟨q + 1, by omega, by go_num, by rw [HE.out]⟩
          case measure => simp [intOf]; omega
        · obtain rfl : q = N := by omega
          have c1 := HP.out q hq
          have HE : Hid (ebin K J = (z : Nat)) := by unfold Hid ebin; rw [if_neg (by omega), ← HZ.out]; rfl
          have p1 := P1.out
          have p2 := P2.out
          generalize hp : J ^ q = p at *
          clear hp
          go_wp2_with fail
          refine (eof_any K J _ (by omega)).mono ?_
          rintro e w1 ⟨rfl, hb1⟩
          rw [HE.out]
          have HB1 := Lib.hid hb1
          clear hb1
          go_wp2_with fail
          go_roundw
          case rel => exact ⟨i + 1, _, _, by omega, by have := HJ.out; omega, rfl, by rw [HX.out], rfl, by omega, by omega, HG.out, HB.out.trans (HB1.out.mono HB.out.size)⟩
          case measure => simp [intOf]
    · obtain rfl : i = K + 1 := by omega
      have hj1 : j = -1 := by omega
      subst hj1
      go_wp2_with fail
      go_ret
      exact ⟨ret_i64 HF.out, HB.out⟩
end Go.Proofs.Ytakjcodfcoaadab
