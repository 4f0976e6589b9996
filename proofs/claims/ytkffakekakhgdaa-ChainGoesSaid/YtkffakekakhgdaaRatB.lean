/- Fractions in memory: SetFrac, walked. Printed by ratgen.py. No condition but the size, and that the second number is not 0. -/
import Derived.Test.YtkffakekakhgdaaRatA
namespace Go.Proofs.Ytkffakekakhgdaa
open Go.ChangeShapes Go.WideShapes Go.ChangeAt Go.RowKit
set_option linter.unusedVariables false

/-- A fraction in lowest terms, its second number above 0. -/
def frN (a b : Int) : Int := if b.tdiv (Nat.gcd a.natAbs b.natAbs : Nat) < 0 then -(a.tdiv (Nat.gcd a.natAbs b.natAbs : Nat)) else a.tdiv (Nat.gcd a.natAbs b.natAbs : Nat)
def frD (a b : Int) : Int := if b.tdiv (Nat.gcd a.natAbs b.natAbs : Nat) < 0 then -(b.tdiv (Nat.gcd a.natAbs b.natAbs : Nat)) else b.tdiv (Nat.gcd a.natAbs b.natAbs : Nat)
set_option maxRecDepth 20000 in
set_option maxHeartbeats 4000000 in
theorem setFrac_any (g ga oa gb ob : Nat) (a b : Int) (L : Nat) (w : World) (hg : RatBlk w g) (ha : IntZ w ga oa a) (hb : IntZ w gb ob b) (h0 : b ≠ 0) (fa : Fits a L) (fb : Fits b L) (l1 : 1 ≤ L) (hL : L < 8796093022207) :
    Calls Try.prog 79 #[.pointer (some ⟨g, 0, none⟩), .pointer (some ⟨ga, oa, none⟩), .pointer (some ⟨gb, ob, none⟩)] w fun e w' => e = .returned (.pointer (some ⟨g, 0, none⟩)) ∧ PutR w w' g (frN a b) (frD a b) := by
  have HR := Lib.hid hg
  have HA := Lib.hid ha
  have HB := Lib.hid hb
  have FA := Lib.hid fa
  have FB := Lib.hid fb
  have HL := Lib.hid (And.intro l1 hL)
  have HGL := Lib.hid hg.lt
  have HG0 : Hid (((Nat.gcd a.natAbs b.natAbs : Nat) : Int) ≠ 0) := by
    have := Nat.gcd_pos_of_pos_right a.natAbs (show 0 < b.natAbs by omega)
    unfold Hid; omega
  have HFN : Hid (frN a b = if b.tdiv (Nat.gcd a.natAbs b.natAbs : Nat) < 0 then -(a.tdiv (Nat.gcd a.natAbs b.natAbs : Nat)) else a.tdiv (Nat.gcd a.natAbs b.natAbs : Nat)) := rfl
  have HFD : Hid (frD a b = if b.tdiv (Nat.gcd a.natAbs b.natAbs : Nat) < 0 then -(b.tdiv (Nat.gcd a.natAbs b.natAbs : Nat)) else b.tdiv (Nat.gcd a.natAbs b.natAbs : Nat)) := rfl
  have HGC := Lib.hid (fun (u : World) (k : Nat) (h1 : IntBlk u k) (h2 : IntZ u ga oa a) (h3 : IntZ u gb ob b) => gcd_any k ga oa gb ob a b L u h1 h2 h3 fa fb l1 hL)
  generalize ((Nat.gcd a.natAbs b.natAbs : Nat) : Int) = G at *
  clear hg ha hb fa fb l1 hL h0
  go_enter Try.func79, Try.ntmps79
  go_wp2_with fail
  refine (HGC.out _ w.heap.size (newBlk _ _ _) (HA.out.alloc _) (HB.out.alloc _)).mono ?_
  rintro e w1 ⟨rfl, hp⟩
  have H1 := Lib.hid hp.new
  clear hp
  go_wp2_with fail
  refine (quo_any w1.heap.size ga oa w.heap.size 0 a G L _ (newBlk _ _ _) ((HA.out.below H1.out.2.2.1).alloc _) (H1.out.1.alloc _) HG0.out FA.out HL.out.2).mono ?_
  rintro e w2 ⟨rfl, hp⟩
  have H2 := Lib.hid hp.new
  have HB2 : Hid (Below w.heap.size w w2) := H1.out.2.2.1.trans (H2.out.2.2.1.mono H1.out.2.2.1.size)
  have HG2 : Hid (IntZ w2 w.heap.size 0 G) := H1.out.1.below H2.out.2.2.1
  clear hp
  go_wp2_with fail
  refine (quo_any w2.heap.size gb ob w.heap.size 0 b G L _ (newBlk _ _ _) ((HB.out.below HB2.out).alloc _) (HG2.out.alloc _) HG0.out FB.out HL.out.2).mono ?_
  rintro e w3 ⟨rfl, hp⟩
  have H3 := Lib.hid hp.new
  have HB3 : Hid (Below w.heap.size w w3) := HB2.out.trans (H3.out.2.2.1.mono HB2.out.size)
  have HX3 : Hid (IntZ w3 w1.heap.size 0 (a.tdiv G)) := H2.out.1.below H3.out.2.2.1
  have HXB : Hid (IntBlk w3 w1.heap.size) := H2.out.2.1.below H3.out.2.2.1
  have HY3 : Hid (IntZ w3 w2.heap.size 0 (b.tdiv G)) := H3.out.1
  have HYB : Hid (IntBlk w3 w2.heap.size) := H3.out.2.1
  have HGX : Hid (g < w1.heap.size ∧ w1.heap.size < w2.heap.size) := ⟨Nat.lt_of_lt_of_le HGL.out H1.out.2.2.1.size, H2.out.2.1.lt⟩
  have HGY : Hid (g < w2.heap.size) := by have := HGX.out; unfold Hid; omega
  have HB0X : w.heap.size ≤ w1.heap.size ∧ w.heap.size ≤ w2.heap.size := ⟨H1.out.2.2.1.size, HB2.out.size⟩
  have HRB3 : Hid (RatBlk w3 g) := HR.out.below HB3.out
  clear hp H1 H2 H3 HG2 HB2
  obtain ⟨by1, dy, Ay, cy, hby, _, _, _, sy1⟩ := HY3.out.open_ HYB.out
  have x1 := hby.cell 0 rfl
  have hng := sy1.neg_iff
  clear hby sy1
  generalize a.tdiv G = X at *
  generalize b.tdiv G = Y at *
  by_cases hy : Y < 0
  · obtain rfl : by1 = true := by rw [hng]; exact decide_eq_true hy
    have FN : Hid (frN a b = -X) := by unfold Hid; rw [HFN.out, if_pos hy]
    have FD : Hid (frD a b = -Y) := by unfold Hid; rw [HFD.out, if_pos hy]
    clear hng hy
    go_wp2_with fail
    refine (neg_any w1.heap.size w1.heap.size 0 X w3 HXB.out HX3.out).mono ?_
    rintro e w4 ⟨rfl, hp⟩
    have P4 := Lib.hid hp
    have HY4 : Hid (IntZ w4 w2.heap.size 0 Y) := HY3.out.grown hp.2.2 (by have := HGX.out; omega) HXB.out
    have HYB4 : Hid (IntBlk w4 w2.heap.size) := HYB.out.grown hp.2.2 (by have := HGX.out; omega)
    have HR4 : Hid (RatBlk w4 g) := HRB3.out.grown hp.2.2 (by have := HGX.out; omega)
    clear hp x1
    go_wp2_with fail
    refine (neg_any w2.heap.size w2.heap.size 0 Y w4 HYB4.out HY4.out).mono ?_
    rintro e w5 ⟨rfl, hp⟩
    have P5 := Lib.hid hp
    have HRB : Hid (RatBlk w5 g) := HR4.out.grown hp.2.2 (by have := HGX.out; omega)
    have HX : Hid (IntZ w5 w1.heap.size 0 (-X)) := P4.out.1.grown hp.2.2 (by have := HGX.out; omega) HYB4.out
    have HY : Hid (IntZ w5 w2.heap.size 0 (-Y)) := hp.1
    have HGB : Hid (w.grownBy w5 (some g)) := grown_of_below (Below.grown (Below.grown HB3.out P4.out.2.2 HB3.out.size (fun q hq => by injection hq with hq; have := HB0X; omega)) hp.2.2 (Nat.le_trans HB3.out.size P4.out.2.2.size) (fun q hq => by injection hq with hq; have := HB0X; omega)) _
    clear hp
    obtain ⟨p, q, r, s, hrb⟩ := HRB.out
    obtain ⟨bx, xs, ax, sx⟩ := HX.out
    obtain ⟨by_, ys, ay, sy⟩ := HY.out
    have HRX := Lib.hid hrb
    have HAX := Lib.hid ax
    have HAY := Lib.hid ay
    have HSX := Lib.hid sx
    have HSY := Lib.hid sy
    clear hrb ax ay sx sy
    go_wp2_with fail
    refine (set_any g 0 w1.heap.size 0 tR #[p, q, r, s] bx xs _ HRX.out tR_ne (show 1 < 4 by decide) HAX.out).mono ?_
    rintro e w6 ⟨rfl, A6, c6, k1, k2, k3, k4, k5⟩
    have K1 := Lib.hid (show Blk w6 g tR #[.bool bx, .slice A6 xs.length c6, r, s] from k1)
    have K2 := Lib.hid (And.intro k2 k3)
    have K4 := Lib.hid k4
    have K5 := Lib.hid k5
    have HAY6 : Hid (IntAt w6 w2.heap.size 0 by_ ys) := HAY.out.grown k5 (by have := HGY.out; omega) HRX.out tR_ne
    clear k1 k2 k3 k4 k5
    go_wp2_with fail
    refine (set_any g 2 w2.heap.size 0 tR #[.bool bx, .slice A6 xs.length c6, r, s] by_ ys _ K1.out tR_ne (show 3 < 4 by decide) HAY6.out).mono ?_
    rintro e w7 ⟨rfl, A7, c7, j1, j2, j3, j4, j5⟩
    have HFIN : Hid (PutR w w7 g (-X) (-Y)) := ⟨⟨bx, xs, ⟨tR, _, A6, c6, j1, tR_ne, rfl, rfl, K2.out.1, K2.out.2, K4.out.grown j5 K1.out tR_ne⟩, HSX.out⟩, ⟨by_, ys, ⟨tR, _, A7, c7, j1, tR_ne, rfl, rfl, j2, j3, j4⟩, HSY.out⟩, ⟨_, _, _, _, j1⟩, (HGB.out.trans K5.out).trans j5⟩
    clear j1 j2 j3 j4 j5
    go_wp2_with fail
    go_ret
    exact ⟨rfl, by rw [FN.out, FD.out]; exact HFIN.out⟩
  · obtain rfl : by1 = false := by rw [hng]; exact decide_eq_false hy
    have FN : Hid (frN a b = X) := by unfold Hid; rw [HFN.out, if_neg hy]
    have FD : Hid (frD a b = Y) := by unfold Hid; rw [HFD.out, if_neg hy]
    clear hng hy
    have HRB := HRB3
    have HX := HX3
    have HY := HY3
    have HGB : Hid (w.grownBy w3 (some g)) := grown_of_below HB3.out _
    obtain ⟨p, q, r, s, hrb⟩ := HRB.out
    obtain ⟨bx, xs, ax, sx⟩ := HX.out
    obtain ⟨by_, ys, ay, sy⟩ := HY.out
    have HRX := Lib.hid hrb
    have HAX := Lib.hid ax
    have HAY := Lib.hid ay
    have HSX := Lib.hid sx
    have HSY := Lib.hid sy
    clear hrb ax ay sx sy
    go_wp2_with fail
    refine (set_any g 0 w1.heap.size 0 tR #[p, q, r, s] bx xs _ HRX.out tR_ne (show 1 < 4 by decide) HAX.out).mono ?_
    rintro e w6 ⟨rfl, A6, c6, k1, k2, k3, k4, k5⟩
    have K1 := Lib.hid (show Blk w6 g tR #[.bool bx, .slice A6 xs.length c6, r, s] from k1)
    have K2 := Lib.hid (And.intro k2 k3)
    have K4 := Lib.hid k4
    have K5 := Lib.hid k5
    have HAY6 : Hid (IntAt w6 w2.heap.size 0 by_ ys) := HAY.out.grown k5 (by have := HGY.out; omega) HRX.out tR_ne
    clear k1 k2 k3 k4 k5
    go_wp2_with fail
    refine (set_any g 2 w2.heap.size 0 tR #[.bool bx, .slice A6 xs.length c6, r, s] by_ ys _ K1.out tR_ne (show 3 < 4 by decide) HAY6.out).mono ?_
    rintro e w7 ⟨rfl, A7, c7, j1, j2, j3, j4, j5⟩
    have HFIN : Hid (PutR w w7 g (X) (Y)) := ⟨⟨bx, xs, ⟨tR, _, A6, c6, j1, tR_ne, rfl, rfl, K2.out.1, K2.out.2, K4.out.grown j5 K1.out tR_ne⟩, HSX.out⟩, ⟨by_, ys, ⟨tR, _, A7, c7, j1, tR_ne, rfl, rfl, j2, j3, j4⟩, HSY.out⟩, ⟨_, _, _, _, j1⟩, (HGB.out.trans K5.out).trans j5⟩
    clear j1 j2 j3 j4 j5
    go_wp2_with fail
    go_ret
    exact ⟨rfl, by rw [FN.out, FD.out]; exact HFIN.out⟩
end Go.Proofs.Ytkffakekakhgdaa
