/- Whole numbers in memory: quotient and remainder of long numbers, walked. No condition. -/
import Derived.Test.YtkffakekakhgdaaBigZ
import Derived.Test.YtkffakekakhgdaaHeld
namespace Go.Proofs.Ytkffakekakhgdaa
open Go.ChangeShapes Go.WideShapes Go.ChangeAt Go.RowKit
set_option linter.unusedVariables false
theorem TSeg.drewM {w : World} {e : TypeId} {A : Option Addr} {xs : List Value} (h : TSeg w e A xs) (n : Nat) : TSeg (w.drewN n).drew e A xs := h
set_option maxRecDepth 20000 in
set_option maxHeartbeats 4000000 in
theorem quorem_big (gz gr gx ox gy oy : Nat) (x y : Int) (bx by_ : Bool) (xs ys : List Nat) (w : World) (hz : IntBlk w gz) (hr : IntBlk w gr) (hne : gz ≠ gr) (hx : IntAt w gx ox bx xs) (hy : IntAt w gy oy by_ ys) (sx : IsZ bx xs x) (sy : IsZ by_ ys y) (hle : dv ys ≤ dv xs) (h0 : 0 < dv ys) (hl : 3 ≤ xs.length) (lx : xs.length < 8796093022207) :
    Calls Try.prog 126 #[.pointer (some ⟨gz, 0, none⟩), .pointer (some ⟨gx, ox, none⟩), .pointer (some ⟨gy, oy, none⟩), .pointer (some ⟨gr, 0, none⟩)] w fun e w' => e = .returned (.tuple #[.pointer (some ⟨gz, 0, none⟩), .pointer (some ⟨gr, 0, none⟩)]) ∧ QR w w' gz gr (x.tdiv y) (x.tmod y) := by
  have HZ := Lib.hid hz
  have HR := Lib.hid hr
  have HX := Lib.hid hx
  have HY := Lib.hid hy
  have SX := Lib.hid sx
  have SY := Lib.hid sy
  have e1 := Lib.hid (tdiv_sign sx sy)
  have e2 := Lib.hid (tmod_sign sx sy)
  have HC : Hid (0 ≤ cmpN (dv xs) (dv ys)) := by unfold Hid cmpN; rw [if_neg (by omega)]; split <;> decide
  have HYL : Hid (0 < ys.length) := by
    unfold Hid
    rcases Nat.eq_zero_or_pos ys.length with h | h
    · have : ys = [] := List.eq_nil_of_length_eq_zero h
      subst this
      rw [dv_nil] at h0
      exact absurd h0 (by decide)
    · exact h
  have HLE : Hid (ys.length ≤ xs.length) := by
    unfold Hid
    rcases Nat.lt_or_ge xs.length ys.length with h | h
    · exact absurd (dv_len_lt sx.1 sy.2.1 h) (by omega)
    · exact h
  obtain ⟨tx, csx, Ax, capx, hbx, _, hx0, hx1, hcx, hmx, hdx⟩ := hx
  obtain ⟨ty, csy, Ay, capy, hby, _, hy0, hy1, hcy, hmy, hdy⟩ := hy
  have c0 := hbx.cell ox hx0
  have c1 := hbx.cell (ox + 1) hx1
  have c2 := hby.cell oy hy0
  have c3 := hby.cell (oy + 1) hy1
  have LX := Lib.hid hbx.lt
  have LY := Lib.hid hby.lt
  have HDX := Lib.hid hdx
  have HDY := Lib.hid hdy
  have HLX := Lib.hid lx
  have hl' : ¬ (xs.length : Int) < 3 := by omega
  clear hz hr sx sy hbx hx0 hx1 hcx hmx hdx hby hy0 hy1 hcy hmy hdy hle h0 hl lx
  go_enter Try.func126, Try.ntmps126
  go_wp2_with fail
  refine (cmpAbs_any gx ox gy oy bx by_ xs ys _ HX.out HY.out SX.out.1 SX.out.2.1 SY.out.1 SY.out.2.1).mono ?_
  rintro e _ ⟨rfl, n, rfl⟩
  have hc : ¬ cmpN (dv xs) (dv ys) < 0 := Int.not_lt.2 HC.out
  generalize cmpN (dv xs) (dv ys) = cm at *
  go_wp2_with fail
  go_quiet (fail)
  go_wp2_with fail
  refine wp_region_plan [(0, 0), (1, 0), (2, 0), (3, 1), (4, 0), (5, 0), (6, 0), (7, 1), (8, 2), (9, 0), (10, 0), (11, 0), (12, 0), (13, 0)] (fun w' => w'.cell? ⟨gx, ox + 1, none⟩ = some (.slice Ax xs.length capx) ∧ w'.cell? ⟨gy, oy + 1, none⟩ = some (.slice Ay ys.length capy) ∧ Below w.heap.size w w') (by kernel_rfl) (by kernel_rfl) (fun _ d _ _ _ h => by cases d <;> exact h) ⟨c1, c3, Below.drew (below_drewN (Below.refl _ _) _)⟩ ?_
  iterate 8 ((first | (refine plan0 (v := ?_) rfl rfl (by rfl) ?_ ?_) | (refine plan1 (v := ?_) rfl rfl (by rfl) ?_ ?_)); rotate_left; (first | (intro w'; go_simp; with_reducible rfl) | (intro w' hS; obtain ⟨h1, h2, h3⟩ := hS; go_simp; with_reducible rfl)); simp only [List.setIfInBounds_toArray, List.set_cons_zero, List.set_cons_succ])
  refine plan2 rfl rfl fun K' hK' => ?_
  go_simp
  refine (parts_any Ax Ay xs ys capx capy _ (TSeg.drewM HDX.out _) (TSeg.drewM HDY.out _) SX.out.1 SY.out.1 SY.out.2.1 HYL.out HLX.out HLE.out).mono ?_
  rintro e w1 ⟨A1, k1, d1, A2, k2, d2, rfl, hk1, hk2, hd1, hd2, hok1, hok2, ⟨l1, l2, v1, v2⟩, hbel⟩
  dsimp only
  have hbw : Below w.heap.size w w1 := (Below.drew (below_drewN (Below.refl _ _) _)).trans hbel
  refine hK' _ _ ⟨(hbw.cell (p := ⟨gx, ox + 1, none⟩) LX.out).trans c1, (hbw.cell (p := ⟨gy, oy + 1, none⟩) LY.out).trans c3, hbw⟩ ?_
  clear hK' K' c0 c1 c2 c3
  have B1 := Lib.hid (HZ.out.below hbw)
  have B2 := Lib.hid (HR.out.below hbw)
  have M1 : Hid (d1.length ≤ capMax) := by
    have := HLX.out; unfold Hid; show _ ≤ 17592186044416; omega
  have M2 : Hid (d2.length ≤ capMax) := by
    have := HLX.out; have := HLE.out; unfold Hid; show _ ≤ 17592186044416; omega
  have K1 := Lib.hid hk1
  have K2 := Lib.hid hk2
  have E1 := Lib.hid hd1
  have E2 := Lib.hid hd2
  have O1 := Lib.hid hok1
  have O2 := Lib.hid hok2
  have V1 : Hid (x.tdiv y = if (!(bx == by_)) = true then -(dv d1 : Int) else (dv d1 : Int)) := by
    unfold Hid; rw [e1.out, v1]
  have V2 : Hid (x.tmod y = if bx = true then -(dv d2 : Int) else (dv d2 : Int)) := by
    unfold Hid; rw [e2.out, v2]
  have T3 : Hid (Two w w1 gz gr) := Two.left (grown_of_below hbw _)
  clear hk1 hk2 hd1 hd2 hok1 hok2 l1 l2 v1 v2 hbel hbw
  iterate 5 ((refine plan0 (v := ?_) rfl rfl (by rfl) ?_ ?_); rotate_left; (intro w'; go_simp; with_reducible rfl); simp only [List.setIfInBounds_toArray, List.set_cons_zero, List.set_cons_succ])
  refine planEnd ?_
  obtain ⟨p1, p2, hb1⟩ := B1.out
  obtain ⟨q1, q2, hb2⟩ := B2.out
  have z0 := hb1.cell 0 rfl
  have z1 := hb1.cell 1 rfl
  have f0 := hb1.frozen 0
  have f1 := hb1.frozen 1
  have r0 := hb2.cell 0 rfl
  have r1 := hb2.cell 1 rfl
  have g0 := hb2.frozen 0
  have g1 := hb2.frozen 1
  have HB1 := Lib.hid hb1
  have HB2 := Lib.hid hb2
  have hne' : ¬ gr = gz := fun h => hne h.symm
  clear hb1 hb2
  go_wp2_with fail
  clear z0 z1 f0 f1 r0 r1 g0 g1
  obtain ⟨w4, hw4⟩ : ∃ w4, w4 = (((w1.setCell ⟨gz, 0, none⟩ (.bool (!(bx == by_)))).setCell ⟨gz, 1, none⟩ (.slice A1 d1.length k1)).setCell ⟨gr, 0, none⟩ (.bool bx)).setCell ⟨gr, 1, none⟩ (.slice A2 d2.length k2) := ⟨_, rfl⟩
  rw [← hw4]
  have X1 : Hid (Blk ((w1.setCell ⟨gz, 0, none⟩ (.bool (!(bx == by_)))).setCell ⟨gz, 1, none⟩ (.slice A1 d1.length k1)) gz tI #[.bool (!(bx == by_)), .slice A1 d1.length k1]) := (HB1.out.set_ 0 _).set_ 1 _
  have X2 : Hid (Blk ((w1.setCell ⟨gz, 0, none⟩ (.bool (!(bx == by_)))).setCell ⟨gz, 1, none⟩ (.slice A1 d1.length k1)) gr tI #[q1, q2]) := (HB2.out.far (p := ⟨gz, 0, none⟩) hne.symm _).far (p := ⟨gz, 1, none⟩) hne.symm _
  have B3 : Hid (Blk w4 gz tI #[.bool (!(bx == by_)), .slice A1 d1.length k1]) := hw4 ▸ (X1.out.far (p := ⟨gr, 0, none⟩) hne _).far (p := ⟨gr, 1, none⟩) hne _
  have B4 : Hid (Blk w4 gr tI #[.bool bx, .slice A2 d2.length k2]) := hw4 ▸ (X2.out.set_ 0 _).set_ 1 _
  have E3 : Hid (Digs w4 A1 d1) := hw4 ▸ (((E1.out.far HB1.out tI_ne 0 _).far (HB1.out.set_ 0 _) tI_ne 1 _).far X2.out tI_ne 0 _).far (X2.out.set_ 0 _) tI_ne 1 _
  have E4 : Hid (Digs w4 A2 d2) := hw4 ▸ (((E2.out.far HB1.out tI_ne 0 _).far (HB1.out.set_ 0 _) tI_ne 1 _).far X2.out tI_ne 0 _).far (X2.out.set_ 0 _) tI_ne 1 _
  have T4 : Hid (Two w w4 gz gr) := hw4 ▸ T3.out.trans (((Two.left (setCell_grown _ _ _ _)).trans (Two.left (setCell_grown _ _ _ _))).trans ((Two.right (setCell_grown _ _ _ _)).trans (Two.right (setCell_grown _ _ _ _))))
  clear hw4 X1 X2 HB1 HB2
  refine (trimZ gz _ A1 k1 d1 w4 B3.out E3.out O1.out K1.out M1.out).mono ?_
  rintro e w5 ⟨rfl, hp5⟩
  have P5 := Lib.hid hp5
  clear hp5
  go_wp2_with fail
  have hb5 : Blk w5 gr tI #[.bool bx, .slice A2 d2.length k2] := B4.out.grown P5.out.2.2 hne'
  refine (trimZ gr bx A2 k2 d2 w5 hb5 (TSeg.grown E4.out P5.out.2.2 B3.out tI_ne) O2.out K2.out M2.out).mono ?_
  rintro e w6 ⟨rfl, hp6⟩
  have P6 := Lib.hid hp6
  have Q5 : Hid (IntBlk w5 gr) := ⟨_, _, hb5⟩
  clear hp6 hb5
  go_wp2_with fail
  go_ret2
  rw [V1.out, V2.out]
  exact ⟨rfl, P5.out.1.grown P6.out.2.2 hne Q5.out, P6.out.1, P5.out.2.1.grown P6.out.2.2 hne, P6.out.2.1, T4.out.trans ((Two.left P5.out.2.2).trans (Two.right P6.out.2.2))⟩
end Go.Proofs.Ytkffakekakhgdaa
