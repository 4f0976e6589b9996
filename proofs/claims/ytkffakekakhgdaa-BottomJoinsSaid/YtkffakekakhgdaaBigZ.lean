/- Whole numbers in memory: quotient and remainder, walked. No condition. -/
import Derived.Test.YtkffakekakhgdaaBigV
namespace Go.Proofs.Ytkffakekakhgdaa
open Go.ChangeShapes Go.WideShapes Go.ChangeAt Go.RowKit
set_option linter.unusedVariables false

/-- What QuoRem leaves. -/
def QR (w w' : World) (gz gr : Nat) (q r : Int) : Prop := IntZ w' gz 0 q ∧ IntZ w' gr 0 r ∧ IntBlk w' gz ∧ IntBlk w' gr ∧ Two w w' gz gr
set_option maxRecDepth 20000 in
set_option maxHeartbeats 4000000 in
theorem quorem_less (gz gr gx ox gy oy : Nat) (x y : Int) (bx by_ : Bool) (xs ys : List Nat) (w : World) (hz : IntBlk w gz) (hr : IntBlk w gr) (hne : gz ≠ gr) (hx : IntAt w gx ox bx xs) (hy : IntAt w gy oy by_ ys) (sx : IsZ bx xs x) (sy : IsZ by_ ys y) (hlt : dv xs < dv ys) :
    Calls Try.prog 126 #[.pointer (some ⟨gz, 0, none⟩), .pointer (some ⟨gx, ox, none⟩), .pointer (some ⟨gy, oy, none⟩), .pointer (some ⟨gr, 0, none⟩)] w fun e w' => e = .returned (.tuple #[.pointer (some ⟨gz, 0, none⟩), .pointer (some ⟨gr, 0, none⟩)]) ∧ QR w w' gz gr (x.tdiv y) (x.tmod y) := by
  have HZ := Lib.hid hz
  have HR := Lib.hid hr
  have HX := Lib.hid hx
  have HY := Lib.hid hy
  have SX := Lib.hid sx
  have SY := Lib.hid sy
  have e1 : Hid (x.tdiv y = 0) := by
    unfold Hid; rw [tdiv_sign sx sy, Nat.div_eq_of_lt hlt]; simp
  have e2 : Hid (x.tmod y = x) := by
    unfold Hid; rw [tmod_sign sx sy, Nat.mod_eq_of_lt hlt]; exact sx.2.2.2.symm
  clear hz hr hx hy sx sy
  go_enter Try.func126, Try.ntmps126
  go_wp2_with fail
  refine (cmpAbs_any gx ox gy oy bx by_ xs ys _ HX.out HY.out SX.out.1 SX.out.2.1 SY.out.1 SY.out.2.1).mono ?_
  rintro e _ ⟨rfl, n, rfl⟩
  rw [cmpN_lt hlt]
  clear hlt
  go_wp2_with fail
  refine (setZ_any gr gx ox x _ (HR.out.drewN n) ⟨bx, xs, HX.out.drewN n, SX.out⟩).mono ?_
  rintro e w2 ⟨rfl, hp⟩
  have HP := Lib.hid hp
  clear hp
  go_wp2_with fail
  refine (setI_any gz 0 _ (((HZ.out.drewN n).grown HP.out.2.2 hne)) (by decide) (by decide)).mono ?_
  rintro e w3 ⟨rfl, hq⟩
  have HQ := Lib.hid hq
  clear hq
  go_wp2_with fail
  go_ret2
  rw [e1.out, e2.out]
  exact ⟨rfl, HQ.out.1, HP.out.1.grown HQ.out.2.2 hne.symm ((HZ.out.drewN n).grown HP.out.2.2 hne), HQ.out.2.1, HP.out.2.1.grown HQ.out.2.2 hne.symm, (Two.drewN n).trans ((Two.right HP.out.2.2).trans (Two.left HQ.out.2.2))⟩

theorem dv_two {ds : List Nat} (h : dok ds) (hl : ds.length < 3) : dv ds < 18446744073709551616 := by
  have h1 := dv_lt h
  have h2 := bp_le (show ds.length ≤ 2 by omega)
  have e : bp 2 = 18446744073709551616 := rfl
  omega
set_option maxRecDepth 20000 in
set_option maxHeartbeats 4000000 in
theorem quorem_small (gz gr gx ox gy oy : Nat) (x y : Int) (bx by_ : Bool) (xs ys : List Nat) (w : World) (hz : IntBlk w gz) (hr : IntBlk w gr) (hne : gz ≠ gr) (hx : IntAt w gx ox bx xs) (hy : IntAt w gy oy by_ ys) (sx : IsZ bx xs x) (sy : IsZ by_ ys y) (hle : dv ys ≤ dv xs) (h0 : 0 < dv ys) (hl : xs.length < 3) :
    Calls Try.prog 126 #[.pointer (some ⟨gz, 0, none⟩), .pointer (some ⟨gx, ox, none⟩), .pointer (some ⟨gy, oy, none⟩), .pointer (some ⟨gr, 0, none⟩)] w fun e w' => e = .returned (.tuple #[.pointer (some ⟨gz, 0, none⟩), .pointer (some ⟨gr, 0, none⟩)]) ∧ QR w w' gz gr (x.tdiv y) (x.tmod y) := by
  have HZ := Lib.hid hz
  have HR := Lib.hid hr
  have HX := Lib.hid hx
  have HY := Lib.hid hy
  have SX := Lib.hid sx
  have SY := Lib.hid sy
  have e1 := Lib.hid (tdiv_sign sx sy)
  have e2 := Lib.hid (tmod_sign sx sy)
  have n1 : x.natAbs % 18446744073709551616 = dv xs := by rw [sx.abs]; exact Nat.mod_eq_of_lt (dv_two sx.1 hl)
  have n2 : y.natAbs % 18446744073709551616 = dv ys := by rw [sy.abs]; exact Nat.mod_eq_of_lt (Nat.lt_of_le_of_lt hle (dv_two sx.1 hl))
  have N1 := Lib.hid n1
  have N2 := Lib.hid n2
  have D1 := Lib.hid (dv_two sx.1 hl)
  have HC : Hid (0 ≤ cmpN (dv xs) (dv ys)) := by unfold Hid cmpN; rw [if_neg (by omega)]; split <;> decide
  obtain ⟨tx, csx, Ax, capx, hbx, _, hx0, hx1, hcx, hmx, hdx⟩ := hx
  obtain ⟨ty, csy, Ay, capy, hby, _, hy0, hy1, hcy, hmy, hdy⟩ := hy
  have c0 := hbx.cell ox hx0
  have c1 := hbx.cell (ox + 1) hx1
  have c2 := hby.cell oy hy0
  have hl' : (xs.length : Int) < 3 := by omega
  have H0 := Lib.hid h0
  clear hz hr sx sy n1 n2 hbx hx0 hx1 hcx hmx hdx hby hy0 hy1 hcy hmy hdy hle h0 hl
  go_enter Try.func126, Try.ntmps126
  go_wp2_with fail
  refine (cmpAbs_any gx ox gy oy bx by_ xs ys _ HX.out HY.out SX.out.1 SX.out.2.1 SY.out.1 SY.out.2.1).mono ?_
  rintro e _ ⟨rfl, n, rfl⟩
  have hc : ¬ cmpN (dv xs) (dv ys) < 0 := Int.not_lt.2 HC.out
  generalize cmpN (dv xs) (dv ys) = cm at *
  go_wp2_with fail
  go_quiet (fail)
  go_wp2_with fail
  refine (uint64_any gx ox x _ ⟨bx, xs, HX.out.drewN _, SX.out⟩).mono ?_
  rintro e _ ⟨rfl, rfl⟩
  rw [N1.out]
  go_wp2_with fail
  refine (uint64_any gy oy y _ ⟨by_, ys, HY.out.drewN _, SY.out⟩).mono ?_
  rintro e _ ⟨rfl, rfl⟩
  rw [N2.out]
  have hq1 : ((dv xs : Int) / (dv ys : Int)) < 18446744073709551616 := by
    have := Nat.div_le_self (dv xs) (dv ys)
    have := D1.out
    rw [quo_nat]; omega
  have hq0 : 0 ≤ ((dv xs : Int) / (dv ys : Int)) := Int.ediv_nonneg (by omega) (by omega)
  have hy0 : ¬ (dv ys : Int) = 0 := by have := H0.out; omega
  clear c0 c1 c2
  go_wp2_with fail
  refine (setU_any gz (dv xs / dv ys) _ (HZ.out.drewN _) (by have := Nat.div_le_self (dv xs) (dv ys); have := D1.out; omega)).mono ?_
  rintro e w2 ⟨rfl, hp⟩
  have HP := Lib.hid hp
  clear hp
  go_wp2_with fail
  refine (setU_any gr (dv xs % dv ys) _ ((HR.out.drewN _).grown HP.out.2.2 hne.symm) (by have := Nat.mod_le (dv xs) (dv ys); have := D1.out; omega)).mono ?_
  rintro e w3 ⟨rfl, hq⟩
  have HQ := Lib.hid hq
  clear hq
  have hgr2 : IntBlk w2 gr := (HR.out.drewN _).grown HP.out.2.2 hne.symm
  have hgz3 : IntBlk w3 gz := HP.out.2.1.grown HQ.out.2.2 hne
  obtain ⟨b1, d1, A1, k1, hb1, hk1, hm1, hd1, hs1⟩ := (HP.out.1.grown HQ.out.2.2 hne hgr2).open_ hgz3
  obtain ⟨b2, d2, A2, k2, hb2, hk2, hm2, hd2, hs2⟩ := HQ.out.1.open_ HQ.out.2.1
  have T3 : Hid (Two w w3 gz gr) := (Two.drewN _).trans ((Two.left HP.out.2.2).trans (Two.right HQ.out.2.2))
  have V1 : Hid (x.tdiv y = if (!(bx == by_)) = true then -(dv d1 : Int) else (dv d1 : Int)) := by
    have h1 := hs1.abs
    rw [Int.natAbs_natCast] at h1
    unfold Hid; rw [e1.out, h1]
  have V2 : Hid (x.tmod y = if bx = true then -(dv d2 : Int) else (dv d2 : Int)) := by
    have h1 := hs2.abs
    rw [Int.natAbs_natCast] at h1
    unfold Hid; rw [e2.out, h1]
  have hne' : ¬ gr = gz := fun h => hne h.symm
  have z0 := hb1.cell 0 rfl
  have f0 := hb1.frozen 0
  have r0 := hb2.cell 0 rfl
  have g0 := hb2.frozen 0
  have B1 := Lib.hid hb1
  have B2 := Lib.hid hb2
  have K1 := Lib.hid hk1
  have K2 := Lib.hid hk2
  have M1 := Lib.hid hm1
  have M2 := Lib.hid hm2
  have E1 := Lib.hid hd1
  have E2 := Lib.hid hd2
  have S1 := Lib.hid hs1
  have S2 := Lib.hid hs2
  clear hb1 hk1 hm1 hd1 hs1 hb2 hk2 hm2 hd2 hs2 hgr2 hgz3 HP HQ hq1 hq0 hy0
  go_wp2_with fail
  clear z0 f0 r0 g0
  obtain ⟨w4, hw4⟩ : ∃ w4, w4 = (w3.setCell ⟨gz, 0, none⟩ (.bool (!(bx == by_)))).setCell ⟨gr, 0, none⟩ (.bool bx) := ⟨_, rfl⟩
  rw [← hw4]
  have B3 : Hid (Blk w4 gz tI #[.bool (!(bx == by_)), .slice A1 d1.length k1]) := hw4 ▸ (B1.out.set_ 0 _).far (p := ⟨gr, 0, none⟩) hne _
  have B4 : Hid (Blk w4 gr tI #[.bool bx, .slice A2 d2.length k2]) := hw4 ▸ (B2.out.far (p := ⟨gz, 0, none⟩) hne.symm _).set_ 0 _
  have E3 : Hid (Digs w4 A1 d1) := hw4 ▸ (E1.out.far B1.out tI_ne 0 _).far (B2.out.far (p := ⟨gz, 0, none⟩) hne.symm _) tI_ne 0 _
  have E4 : Hid (Digs w4 A2 d2) := hw4 ▸ (E2.out.far B1.out tI_ne 0 _).far (B2.out.far (p := ⟨gz, 0, none⟩) hne.symm _) tI_ne 0 _
  have T4 : Hid (Two w w4 gz gr) := hw4 ▸ T3.out.trans ((Two.left (setCell_grown _ _ _ _)).trans (Two.right (setCell_grown _ _ _ _)))
  clear hw4
  refine (trimZ gz _ A1 k1 d1 w4 B3.out E3.out S1.out.1 K1.out M1.out).mono ?_
  rintro e w5 ⟨rfl, hp5⟩
  have P5 := Lib.hid hp5
  clear hp5
  go_wp2_with fail
  have hb5 : Blk w5 gr tI #[.bool bx, .slice A2 d2.length k2] := B4.out.grown P5.out.2.2 hne'
  refine (trimZ gr bx A2 k2 d2 w5 hb5 (TSeg.grown E4.out P5.out.2.2 B3.out tI_ne) S2.out.1 K2.out M2.out).mono ?_
  rintro e w6 ⟨rfl, hp6⟩
  have P6 := Lib.hid hp6
  have Q5 : Hid (IntBlk w5 gr) := ⟨_, _, hb5⟩
  clear hp6 hb5
  go_wp2_with fail
  go_ret2
  rw [V1.out, V2.out]
  exact ⟨rfl, P5.out.1.grown P6.out.2.2 hne Q5.out, P6.out.1, P5.out.2.1.grown P6.out.2.2 hne, P6.out.2.1, T4.out.trans ((Two.left P5.out.2.2).trans (Two.right P6.out.2.2))⟩
end Go.Proofs.Ytkffakekakhgdaa
