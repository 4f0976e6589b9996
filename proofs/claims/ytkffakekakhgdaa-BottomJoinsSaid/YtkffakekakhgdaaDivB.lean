/- Whole numbers in memory: quotient and remainder, also the ones that are never below 0, walked. No condition. -/
import Derived.Test.YtkffakekakhgdaaDivA
import Derived.Test.YtkffakekakhgdaaBigH
namespace Go.Proofs.Ytkffakekakhgdaa
open Go.ChangeShapes Go.WideShapes Go.ChangeAt Go.RowKit
set_option linter.unusedVariables false

theorem quorem_any (gz gr gx ox gy oy : Nat) (x y : Int) (L : Nat) (w : World) (hz : IntBlk w gz) (hr : IntBlk w gr) (hne : gz ≠ gr) (hx : IntZ w gx ox x) (hy : IntZ w gy oy y) (h0 : y ≠ 0) (fx : Fits x L) (hL : L < 8796093022207) :
    Calls Try.prog 126 #[.pointer (some ⟨gz, 0, none⟩), .pointer (some ⟨gx, ox, none⟩), .pointer (some ⟨gy, oy, none⟩), .pointer (some ⟨gr, 0, none⟩)] w fun e w' => e = .returned (.tuple #[.pointer (some ⟨gz, 0, none⟩), .pointer (some ⟨gr, 0, none⟩)]) ∧ QR w w' gz gr (x.tdiv y) (x.tmod y) := by
  obtain ⟨bx, xs, ax, sx⟩ := hx
  obtain ⟨by_, ys, ay, sy⟩ := hy
  have hy0 : 0 < dv ys := by
    have := sy.abs
    omega
  have hlen := sx.len fx
  by_cases hlt : dv xs < dv ys
  · exact quorem_less gz gr gx ox gy oy x y bx by_ xs ys w hz hr hne ax ay sx sy hlt
  · by_cases h3 : xs.length < 3
    · exact quorem_small gz gr gx ox gy oy x y bx by_ xs ys w hz hr hne ax ay sx sy (by omega) hy0 h3
    · exact quorem_big gz gr gx ox gy oy x y bx by_ xs ys w hz hr hne ax ay sx sy (by omega) hy0 (by omega) (by omega)

theorem eucl_u {a b q r : Int} (hb : b ≠ 0) (h1 : b * q + r = a) (h2 : 0 ≤ r) (h3 : r < b.natAbs) : a / b = q ∧ a % b = r := by
  subst h1
  have hr : r / b = 0 := by
    rcases Int.natAbs_eq b with e | e
    · rw [e]; exact Int.ediv_eq_zero_of_lt h2 h3
    · rw [e, Int.ediv_neg, Int.ediv_eq_zero_of_lt h2 h3]; rfl
  have hm : r % b = r := by
    rcases Int.natAbs_eq b with e | e
    · rw [e]; exact Int.emod_eq_of_lt h2 h3
    · rw [e, Int.emod_neg, Int.emod_eq_of_lt h2 h3]
  constructor
  · rw [Int.add_comm, Int.add_mul_ediv_left _ _ hb, hr]; omega
  · rw [Int.add_comm, Int.add_mul_emod_self_left, hm]
theorem tmod_lt {x y : Int} (h0 : y ≠ 0) : (x.tmod y).natAbs < y.natAbs := by
  rw [Int.natAbs_tmod]
  exact Nat.mod_lt _ (by omega)
theorem eucl_pos {x y : Int} (h : ¬ x.tmod y < 0) (h0 : y ≠ 0) : x / y = x.tdiv y ∧ x % y = x.tmod y :=
  eucl_u h0 (Int.mul_tdiv_add_tmod x y) (by omega) (by have := tmod_lt (x := x) h0; omega)
theorem eucl_up {x y : Int} (h : x.tmod y < 0) (h0 : 0 < y) : x / y = x.tdiv y - 1 ∧ x % y = x.tmod y + y :=
  eucl_u (by omega) (by have := Int.mul_tdiv_add_tmod x y; rw [Int.mul_sub]; omega) (by have := tmod_lt (x := x) (y := y) (by omega); omega) (by omega)
theorem eucl_dn {x y : Int} (h : x.tmod y < 0) (h0 : y < 0) : x / y = x.tdiv y + 1 ∧ x % y = x.tmod y - y :=
  eucl_u (by omega) (by have := Int.mul_tdiv_add_tmod x y; rw [Int.mul_add]; omega) (by have := tmod_lt (x := x) (y := y) (by omega); omega) (by omega)
theorem tdiv_le (x y : Int) : (x.tdiv y).natAbs ≤ x.natAbs := by rw [Int.natAbs_tdiv]; exact Nat.div_le_self _ _
theorem tmod_le (x y : Int) : (x.tmod y).natAbs ≤ x.natAbs := by rw [Int.natAbs_tmod]; exact Nat.mod_le _ _

theorem Fits.abs_le {z x : Int} {L : Nat} (h : Fits x L) (hl : z.natAbs ≤ x.natAbs) : Fits z L := Nat.lt_of_le_of_lt hl h
theorem fits_one : Fits 1 1 := by unfold Fits; decide
set_option maxRecDepth 20000 in
set_option maxHeartbeats 4000000 in
theorem divMod_any (gz gr gx ox gy oy : Nat) (x y : Int) (L : Nat) (w : World) (hz : IntBlk w gz) (hr : IntBlk w gr) (hne : gz ≠ gr) (hx : IntZ w gx ox x) (hy : IntZ w gy oy y) (h0 : y ≠ 0) (fx : Fits x L) (fy : Fits y L) (l1 : 1 ≤ L) (hL : L < 8796093022207) :
    Calls Try.prog 105 #[.pointer (some ⟨gz, 0, none⟩), .pointer (some ⟨gx, ox, none⟩), .pointer (some ⟨gy, oy, none⟩), .pointer (some ⟨gr, 0, none⟩)] w fun e w' => e = .returned (.tuple #[.pointer (some ⟨gz, 0, none⟩), .pointer (some ⟨gr, 0, none⟩)]) ∧ QR w w' gz gr (x / y) (x % y) := by
  have HZ := Lib.hid hz
  have HR := Lib.hid hr
  have HX := Lib.hid hx
  have HY := Lib.hid hy
  have FX := Lib.hid fx
  have FY := Lib.hid fy
  have FQ := Lib.hid (fx.abs_le (tdiv_le x y))
  have FR := Lib.hid (fx.abs_le (tmod_le x y))
  have F1 := Lib.hid (fits_one.mono l1)
  have HL := Lib.hid hL
  have LZ := Lib.hid hz.lt
  have LR := Lib.hid hr.lt
  clear hz hr hx hy fx fy l1 hL
  go_enter Try.func105, Try.ntmps105
  go_wp2_with fail
  refine (setZ_any w.heap.size gy oy y _ (newBlk _ _ _) (HY.out.alloc _)).mono ?_
  rintro e w1 ⟨rfl, hp⟩
  have HN := Lib.hid hp.new
  clear hp
  go_wp2_with fail
  refine (quorem_any gz gr gx ox gy oy x y L _ (HZ.out.below HN.out.2.2.1) (HR.out.below HN.out.2.2.1) hne (HX.out.below HN.out.2.2.1) (HY.out.below HN.out.2.2.1) h0 FX.out HL.out).mono ?_
  rintro e w2 ⟨rfl, hq⟩
  have HQ := Lib.hid hq
  have HT : Hid (Two w w2 gz gr) := (Two.of_below HN.out.2.2.1).trans hq.2.2.2.2
  have HD : Hid (IntZ w2 w.heap.size 0 y) := hq.2.2.2.2.intZ HN.out.1 (HZ.out.below HN.out.2.2.1) (HR.out.below HN.out.2.2.1) (Nat.ne_of_gt LZ.out) (Nat.ne_of_gt LR.out)
  have HDB : Hid (IntBlk w2 w.heap.size) := hq.2.2.2.2.intBlk HN.out.2.1 (Nat.ne_of_gt LZ.out) (Nat.ne_of_gt LR.out)
  clear hq
  obtain ⟨b, ds, A, c, hb, _, _, _, hs⟩ := HQ.out.2.1.open_ HQ.out.2.2.2.1
  have c0 := hb.cell 0 rfl
  have hbn := hs.neg_iff
  clear hs hb
  by_cases hm : x.tmod y < 0
  · obtain rfl : b = true := by rw [hbn]; exact decide_eq_true hm
    obtain ⟨b', ds', A', c', hb', _, _, _, hs'⟩ := HD.out.open_ HDB.out
    have c1 := hb'.cell 0 rfl
    have hbn' := hs'.neg_iff
    clear hs' hb' hbn
    by_cases hn : y < 0
    · obtain rfl : b' = true := by rw [hbn']; exact decide_eq_true hn
      obtain ⟨e1, e2⟩ := eucl_dn hm hn
      have E1 := Lib.hid e1
      have E2 := Lib.hid e2
      clear e1 e2 hbn'
      go_wp2_with fail
      refine (newInt_any 1 w2 (by decide) (by decide)).mono ?_
      rintro e w3 ⟨rfl, hp⟩
      have P3 := Lib.hid hp
      clear hp c0 c1
      go_wp2_with fail
      refine (add_any gz gz 0 w2.heap.size 0 (x.tdiv y) 1 L w3 (HQ.out.2.2.1.below P3.out.2.2.1) (HQ.out.1.below P3.out.2.2.1) P3.out.1 FQ.out F1.out (Nat.lt_trans HL.out (by decide))).mono ?_
      rintro e w4 ⟨rfl, hp⟩
      have P4 := Lib.hid hp
      have G4 : Hid (IntBlk w4 gr) := (HQ.out.2.2.2.1.below P3.out.2.2.1).grown hp.2.2 hne.symm
      have Z4 : Hid (IntZ w4 gr 0 (x.tmod y)) := (HQ.out.2.1.below P3.out.2.2.1).grown hp.2.2 hne.symm (HQ.out.2.2.1.below P3.out.2.2.1)
      have D4 : Hid (IntZ w4 w.heap.size 0 y) := (HD.out.below P3.out.2.2.1).grown hp.2.2 (Nat.ne_of_gt LZ.out) (HQ.out.2.2.1.below P3.out.2.2.1)
      clear hp
      go_wp2_with fail
      refine (sub_any gr gr 0 w.heap.size 0 (x.tmod y) y L w4 G4.out Z4.out D4.out FR.out FY.out (Nat.lt_trans HL.out (by decide))).mono ?_
      rintro e w5 ⟨rfl, hp⟩
      have P5 := Lib.hid hp
      clear hp
      go_wp2_with fail
      go_ret2
      rw [E1.out, E2.out]
      exact ⟨rfl, P4.out.1.grown P5.out.2.2 hne G4.out, P5.out.1, P4.out.2.1.grown P5.out.2.2 hne, P5.out.2.1, HT.out.trans ((Two.of_below P3.out.2.2.1).trans ((Two.left P4.out.2.2).trans (Two.right P5.out.2.2)))⟩
    · obtain rfl : b' = false := by rw [hbn']; exact decide_eq_false hn
      obtain ⟨e1, e2⟩ := eucl_up hm (by omega)
      have E1 := Lib.hid e1
      have E2 := Lib.hid e2
      clear e1 e2 hbn'
      go_wp2_with fail
      refine (newInt_any 1 w2 (by decide) (by decide)).mono ?_
      rintro e w3 ⟨rfl, hp⟩
      have P3 := Lib.hid hp
      clear hp c0 c1
      go_wp2_with fail
      refine (sub_any gz gz 0 w2.heap.size 0 (x.tdiv y) 1 L w3 (HQ.out.2.2.1.below P3.out.2.2.1) (HQ.out.1.below P3.out.2.2.1) P3.out.1 FQ.out F1.out (Nat.lt_trans HL.out (by decide))).mono ?_
      rintro e w4 ⟨rfl, hp⟩
      have P4 := Lib.hid hp
      have G4 : Hid (IntBlk w4 gr) := (HQ.out.2.2.2.1.below P3.out.2.2.1).grown hp.2.2 hne.symm
      have Z4 : Hid (IntZ w4 gr 0 (x.tmod y)) := (HQ.out.2.1.below P3.out.2.2.1).grown hp.2.2 hne.symm (HQ.out.2.2.1.below P3.out.2.2.1)
      have D4 : Hid (IntZ w4 w.heap.size 0 y) := (HD.out.below P3.out.2.2.1).grown hp.2.2 (Nat.ne_of_gt LZ.out) (HQ.out.2.2.1.below P3.out.2.2.1)
      clear hp
      go_wp2_with fail
      refine (add_any gr gr 0 w.heap.size 0 (x.tmod y) y L w4 G4.out Z4.out D4.out FR.out FY.out (Nat.lt_trans HL.out (by decide))).mono ?_
      rintro e w5 ⟨rfl, hp⟩
      have P5 := Lib.hid hp
      clear hp
      go_wp2_with fail
      go_ret2
      rw [E1.out, E2.out]
      exact ⟨rfl, P4.out.1.grown P5.out.2.2 hne G4.out, P5.out.1, P4.out.2.1.grown P5.out.2.2 hne, P5.out.2.1, HT.out.trans ((Two.of_below P3.out.2.2.1).trans ((Two.left P4.out.2.2).trans (Two.right P5.out.2.2)))⟩
  · obtain rfl : b = false := by rw [hbn]; exact decide_eq_false hm
    obtain ⟨e1, e2⟩ := eucl_pos hm h0
    have E1 := Lib.hid e1
    have E2 := Lib.hid e2
    clear e1 e2 hbn
    go_wp2_with fail
    go_ret2
    rw [E1.out, E2.out]
    exact ⟨rfl, HQ.out.1, HQ.out.2.1, HQ.out.2.2.1, HQ.out.2.2.2.1, HT.out⟩
set_option maxRecDepth 20000 in
set_option maxHeartbeats 4000000 in
theorem mod_any (g gx ox gy oy : Nat) (x y : Int) (L : Nat) (w : World) (hg : IntBlk w g) (hx : IntZ w gx ox x) (hy : IntZ w gy oy y) (h0 : y ≠ 0) (fx : Fits x L) (fy : Fits y L) (l1 : 1 ≤ L) (hL : L < 8796093022207) :
    Calls Try.prog 75 #[.pointer (some ⟨g, 0, none⟩), .pointer (some ⟨gx, ox, none⟩), .pointer (some ⟨gy, oy, none⟩)] w fun e w' => e = .returned (.pointer (some ⟨g, 0, none⟩)) ∧ PutZ w w' g (x % y) := by
  have HG := Lib.hid hg
  have HX := Lib.hid hx
  have HY := Lib.hid hy
  have hne : w.heap.size ≠ g := Nat.ne_of_gt hg.lt
  clear hg hx hy
  go_enter Try.func75, Try.ntmps75
  go_wp2_with fail
  refine (divMod_any w.heap.size g gx ox gy oy x y L _ (newBlk _ _ _) (HG.out.alloc _) hne (HX.out.alloc _) (HY.out.alloc _) h0 fx fy l1 hL).mono ?_
  rintro e w1 ⟨rfl, hq⟩
  have HQ := Lib.hid hq
  clear hq
  go_wp2_with fail
  go_ret
  exact ⟨rfl, HQ.out.2.1, HQ.out.2.2.2.1, Two.grown HQ.out.2.2.2.2 ((Below.refl _ _).alloc (Nat.le_refl _) _) (Nat.le_refl _)⟩
end Go.Proofs.Ytkffakekakhgdaa
