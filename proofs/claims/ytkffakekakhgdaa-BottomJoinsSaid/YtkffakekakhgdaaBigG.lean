/- Whole numbers in memory: sums. No condition. -/
import Derived.Test.YtkffakekakhgdaaBigF
import Derived.Test.YtkffakekakhgdaaBigN
namespace Go.Proofs.Ytkffakekakhgdaa
open Go.ChangeShapes Go.WideShapes Go.ChangeAt Go.RowKit
set_option linter.unusedVariables false

theorem TSeg.drewN {w : World} {e : TypeId} {A : Option Addr} {xs : List Value} (h : TSeg w e A xs) (n : Nat) : TSeg (w.drewN n) e A xs := h
theorem Below.cell' {B : Nat} {w w' : World} (h : Below B w w') {p : Addr} (hp : p.block < B) {v : Value} (hc : w.cell? p = some v) : w'.cell? p = some v := (h.cell hp).trans hc
set_option maxRecDepth 20000 in
set_option maxHeartbeats 4000000 in
theorem add_same (g gx ox gy oy : Nat) (x y : Int) (L : Nat) (bx by_ : Bool) (xs ys : List Nat) (w : World) (hg : IntBlk w g) (hx : IntAt w gx ox bx xs) (hy : IntAt w gy oy by_ ys) (sx : IsZ bx xs x) (sy : IsZ by_ ys y) (fx : Fits x L) (fy : Fits y L) (hL : L < 17592186044416) (hs : bx = by_) :
    Calls Try.prog 80 #[.pointer (some ⟨g, 0, none⟩), .pointer (some ⟨gx, ox, none⟩), .pointer (some ⟨gy, oy, none⟩)] w fun e w' => e = .returned (.pointer (some ⟨g, 0, none⟩)) ∧ PutZ w w' g (x + y) := by
  obtain ⟨tx, cx, Ax, capx, hbx, _, hx0, hx1, hcx, hmx, hdx⟩ := hx
  obtain ⟨ty, cy, Ay, capy, hby, _, hy0, hy1, hcy, hmy, hdy⟩ := hy
  obtain ⟨zx, zy, hzb⟩ := hg
  have c0 := hbx.cell ox hx0
  have c1 := hbx.cell (ox + 1) hx1
  have c2 := hby.cell oy hy0
  have c3 := hby.cell (oy + 1) hy1
  have HZB := Lib.hid hzb
  have HDX := Lib.hid hdx
  have HDY := Lib.hid hdy
  have LX := Lib.hid hbx.lt
  have LY := Lib.hid hby.lt
  have HLX := Lib.hid (sx.len fx)
  have HLY := Lib.hid (sy.len fy)
  have KX := Lib.hid sx.1
  have KY := Lib.hid sy.1
  have SX := Lib.hid sx
  have SY := Lib.hid sy
  have HC := Lib.hid hs
  clear hbx hx0 hx1 hcx hmx hdx hby hy0 hy1 hcy hmy hdy hzb sx sy
  have d1 : (bx == by_) = true := by rw [hs]; simp
  clear hs
  go_enter Try.func80, Try.ntmps80
  go_wp2_with fail
  go_quiet (fail)
  go_wp2_with fail
  clear d1
  refine wp_region_plan [(0, 0), (1, 0), (2, 0), (3, 0), (4, 0), (5, 1), (6, 0), (7, 0), (8, 0), (9, 1), (10, 0), (11, 0), (12, 0), (13, 1), (14, 2), (15, 0), (16, 0), (17, 3), (18, 0), (19, 0), (20, 3)] (fun w' => w'.cell? ⟨gx, ox, none⟩ = some (.bool bx) ∧ w'.cell? ⟨gx, ox + 1, none⟩ = some (.slice Ax xs.length capx) ∧ w'.cell? ⟨gy, oy, none⟩ = some (.bool by_) ∧ w'.cell? ⟨gy, oy + 1, none⟩ = some (.slice Ay ys.length capy) ∧ Below w.heap.size w w') (by kernel_rfl) (by kernel_rfl) (fun _ d _ _ _ h => by cases d <;> exact h) ⟨c0, c1, c2, c3, Below.drew (below_drewN (Below.refl _ _) _)⟩ ?_
  iterate 14 ((first | (refine plan0 (v := ?_) rfl rfl (by rfl) ?_ ?_) | (refine plan1 (v := ?_) rfl rfl (by rfl) ?_ ?_)); rotate_left; (first | (intro w'; go_simp; with_reducible rfl) | (intro w' hS; obtain ⟨h1, h2, h3, h4, h5⟩ := hS; go_simp; with_reducible rfl)); simp only [List.setIfInBounds_toArray, List.set_cons_zero, List.set_cons_succ])
  refine plan2 rfl rfl fun K' hK' => ?_
  go_simp
  refine (sum_any Ax Ay xs ys capx capy _ (TSeg.drewN HDX.out _) (TSeg.drewN HDY.out _) KX.out KY.out (by have := HLX.out; show _ < 17592186044416; omega) (by have := HLY.out; show _ < 17592186044416; omega)).mono ?_
  rintro e w1 ⟨A, c, ds, rfl, hc, hd, hok, ⟨hlen, hval⟩, hbel⟩
  have HLEN := Lib.hid hlen
  have HVAL := Lib.hid hval
  clear hlen hval
  dsimp only
  have hbw : Below w.heap.size w w1 := (Below.drew (below_drewN (Below.refl _ _) _)).trans hbel
  refine hK' _ _ ⟨(hbw.cell (p := ⟨gx, ox, none⟩) LX.out).trans c0, (hbw.cell (p := ⟨gx, ox + 1, none⟩) LX.out).trans c1, (hbw.cell (p := ⟨gy, oy, none⟩) LY.out).trans c2, (hbw.cell (p := ⟨gy, oy + 1, none⟩) LY.out).trans c3, hbw⟩ ?_
  clear hK' K' c0 c1 c2 c3
  have hz1 := HZB.out.below hbw HZB.out.lt
  have z0 := hz1.cell 0 rfl
  have z1 := hz1.cell 1 rfl
  have f0 := hz1.frozen 0
  have f1 := hz1.frozen 1
  iterate 2 ((refine plan0 (v := ?_) rfl rfl (by rfl) ?_ ?_); rotate_left; (intro w'; go_simp; with_reducible rfl); simp only [List.setIfInBounds_toArray, List.set_cons_zero, List.set_cons_succ])
  refine plan3 rfl rfl fun K' hK' => ?_
  go_simp
  refine hK' _ _ ?_
  clear hK' K'
  iterate 2 ((refine plan0 (v := ?_) rfl rfl (by rfl) ?_ ?_); rotate_left; (intro w'; go_simp; with_reducible rfl); simp only [List.setIfInBounds_toArray, List.set_cons_zero, List.set_cons_succ])
  refine plan3 rfl rfl fun K' hK' => ?_
  go_simp
  refine hK' _ _ ?_
  clear hK' K'
  have H2 := Lib.hid hd
  have HW := Lib.hid hz1
  have HB := Lib.hid hbw
  have HOK := Lib.hid hok
  have HV : Hid (x + y = if bx then -(dv ds : Int) else (dv ds : Int)) := by
    unfold Hid
    have hval := HVAL.out
    have h1 := SX.out.2.2.2
    have h2 := SY.out.2.2.2
    have h3 := HC.out
    subst h3
    cases bx
    · rw [if_neg (by decide)] at h1 h2 ⊢; omega
    · rw [if_pos rfl] at h1 h2 ⊢; omega
  have HL : Hid (ds.length ≤ capMax) := by
    have h1 := HLX.out
    have h2 := HLY.out
    have h3 := hL
    have hlen := HLEN.out
    unfold Hid
    show _ ≤ 17592186044416; omega
  clear hd hz1 hbw hbel hok z0 z1 f0 f1
  refine planEnd ?_
  go_wp2_with fail
  have hb2 : Blk ((w1.setCell ⟨g, 0, none⟩ (.bool bx)).setCell ⟨g, 1, none⟩ (.slice A ds.length c)) g tI #[.bool bx, .slice A ds.length c] := (HW.out.set_ 0 _).set_ 1 _
  have hd2 : Digs ((w1.setCell ⟨g, 0, none⟩ (.bool bx)).setCell ⟨g, 1, none⟩ (.slice A ds.length c)) A ds := (H2.out.far HW.out tI_ne 0 _).far (HW.out.set_ 0 _) tI_ne 1 _
  have HB2 := Lib.hid hb2
  have HD2 := Lib.hid hd2
  have HG : Hid (w.grownBy ((w1.setCell ⟨g, 0, none⟩ (.bool bx)).setCell ⟨g, 1, none⟩ (.slice A ds.length c)) (some g)) := (grown_of_below HB.out (some g)).trans ((setCell_grown w1 g 0 (.bool bx)).trans (setCell_grown _ g 1 (.slice A ds.length c)))
  clear hb2 hd2
  refine (trim_any g bx A c ds _ HB2.out HD2.out hc HL.out).mono ?_
  rintro e w3 ⟨rfl, ht⟩
  have HT := Lib.hid ht
  clear ht
  go_wp2_with fail
  go_ret
  exact ⟨rfl, put_of_trim HG.out HB2.out HD2.out HOK.out hc HL.out HT.out HV.out⟩
set_option maxRecDepth 20000 in
set_option maxHeartbeats 4000000 in
theorem add_ge (g gx ox gy oy : Nat) (x y : Int) (L : Nat) (bx by_ : Bool) (xs ys : List Nat) (w : World) (hg : IntBlk w g) (hx : IntAt w gx ox bx xs) (hy : IntAt w gy oy by_ ys) (sx : IsZ bx xs x) (sy : IsZ by_ ys y) (fx : Fits x L) (fy : Fits y L) (hL : L < 17592186044416) (hs : bx ≠ by_) (hge : dv ys ≤ dv xs) :
    Calls Try.prog 80 #[.pointer (some ⟨g, 0, none⟩), .pointer (some ⟨gx, ox, none⟩), .pointer (some ⟨gy, oy, none⟩)] w fun e w' => e = .returned (.pointer (some ⟨g, 0, none⟩)) ∧ PutZ w w' g (x + y) := by
  obtain ⟨tx, cx, Ax, capx, hbx, _, hx0, hx1, hcx, hmx, hdx⟩ := hx
  obtain ⟨ty, cy, Ay, capy, hby, _, hy0, hy1, hcy, hmy, hdy⟩ := hy
  obtain ⟨zx, zy, hzb⟩ := hg
  have c0 := hbx.cell ox hx0
  have c1 := hbx.cell (ox + 1) hx1
  have c2 := hby.cell oy hy0
  have c3 := hby.cell (oy + 1) hy1
  have HZB := Lib.hid hzb
  have HDX := Lib.hid hdx
  have HDY := Lib.hid hdy
  have LX := Lib.hid hbx.lt
  have LY := Lib.hid hby.lt
  have HLX := Lib.hid (sx.len fx)
  have HLY := Lib.hid (sy.len fy)
  have KX := Lib.hid sx.1
  have KY := Lib.hid sy.1
  have NX := Lib.hid sx.2.1
  have NY := Lib.hid sy.2.1
  have SX := Lib.hid sx
  have SY := Lib.hid sy
  have HC := Lib.hid hs
  have HGE := Lib.hid hge
  have AX : Hid (IntAt w gx ox bx xs) := ⟨tx, cx, Ax, capx, hbx, by assumption, hx0, hx1, hcx, hmx, hdx⟩
  have AY : Hid (IntAt w gy oy by_ ys) := ⟨ty, cy, Ay, capy, hby, by assumption, hy0, hy1, hcy, hmy, hdy⟩
  have HCM : Hid (0 ≤ cmpN (dv xs) (dv ys)) := by unfold Hid cmpN; split <;> (try split) <;> omega
  clear hbx hx0 hx1 hcx hmx hdx hby hy0 hy1 hcy hmy hdy hzb sx sy
  have d1 : (bx == by_) = false := by simp [hs]
  clear hs hge
  go_enter Try.func80, Try.ntmps80
  go_wp2_with fail
  go_quiet (fail)
  go_wp2_with fail
  clear d1
  refine (cmpAbs_any gx ox gy oy bx by_ xs ys _ (AX.out.drewN _) (AY.out.drewN _) KX.out NX.out KY.out NY.out).mono ?_
  rintro e w0 ⟨rfl, m0, rfl⟩
  have d2 : 0 ≤ cmpN (dv xs) (dv ys) := HCM.out
  generalize cmpN (dv xs) (dv ys) = cm at *
  go_wp2_with fail
  clear d2
  refine wp_region_plan [(0, 0), (1, 0), (2, 0), (3, 0), (4, 0), (5, 1), (6, 0), (7, 0), (8, 0), (9, 1), (10, 0), (11, 0), (12, 0), (13, 1), (14, 2), (15, 0), (16, 0), (17, 3), (18, 0), (19, 0), (20, 3)] (fun w' => w'.cell? ⟨gx, ox, none⟩ = some (.bool bx) ∧ w'.cell? ⟨gx, ox + 1, none⟩ = some (.slice Ax xs.length capx) ∧ w'.cell? ⟨gy, oy, none⟩ = some (.bool by_) ∧ w'.cell? ⟨gy, oy + 1, none⟩ = some (.slice Ay ys.length capy) ∧ Below w.heap.size w w') (by kernel_rfl) (by kernel_rfl) (fun _ d _ _ _ h => by cases d <;> exact h) ⟨c0, c1, c2, c3, Below.drew (below_drewN (Below.refl _ _) _)⟩ ?_
  iterate 14 ((first | (refine plan0 (v := ?_) rfl rfl (by rfl) ?_ ?_) | (refine plan1 (v := ?_) rfl rfl (by rfl) ?_ ?_)); rotate_left; (first | (intro w'; go_simp; with_reducible rfl) | (intro w' hS; obtain ⟨h1, h2, h3, h4, h5⟩ := hS; go_simp; with_reducible rfl)); simp only [List.setIfInBounds_toArray, List.set_cons_zero, List.set_cons_succ])
  refine plan2 rfl rfl fun K' hK' => ?_
  go_simp
  refine (less_any Ax Ay xs ys capx capy _ (TSeg.drewN HDX.out _) (TSeg.drewN HDY.out _) KX.out KY.out (by have := HLX.out; show _ ≤ 17592186044416; omega) (by rcases Nat.lt_or_ge xs.length ys.length with h | h; exact absurd (dv_len_lt KX.out NY.out h) (by have := HGE.out; omega); exact h) HGE.out).mono ?_
  rintro e w1 ⟨A, c, ds, rfl, hc, hd, hok, ⟨hlen, hval⟩, hbel⟩
  have HLEN := Lib.hid hlen
  have HVAL := Lib.hid hval
  clear hlen hval
  dsimp only
  have hbw : Below w.heap.size w w1 := (Below.drew (below_drewN (Below.refl _ _) _)).trans hbel
  refine hK' _ _ ⟨(hbw.cell (p := ⟨gx, ox, none⟩) LX.out).trans c0, (hbw.cell (p := ⟨gx, ox + 1, none⟩) LX.out).trans c1, (hbw.cell (p := ⟨gy, oy, none⟩) LY.out).trans c2, (hbw.cell (p := ⟨gy, oy + 1, none⟩) LY.out).trans c3, hbw⟩ ?_
  clear hK' K' c0 c1 c2 c3
  have hz1 := HZB.out.below hbw HZB.out.lt
  have z0 := hz1.cell 0 rfl
  have z1 := hz1.cell 1 rfl
  have f0 := hz1.frozen 0
  have f1 := hz1.frozen 1
  iterate 2 ((refine plan0 (v := ?_) rfl rfl (by rfl) ?_ ?_); rotate_left; (intro w'; go_simp; with_reducible rfl); simp only [List.setIfInBounds_toArray, List.set_cons_zero, List.set_cons_succ])
  refine plan3 rfl rfl fun K' hK' => ?_
  go_simp
  refine hK' _ _ ?_
  clear hK' K'
  iterate 2 ((refine plan0 (v := ?_) rfl rfl (by rfl) ?_ ?_); rotate_left; (intro w'; go_simp; with_reducible rfl); simp only [List.setIfInBounds_toArray, List.set_cons_zero, List.set_cons_succ])
  refine plan3 rfl rfl fun K' hK' => ?_
  go_simp
  refine hK' _ _ ?_
  clear hK' K'
  have H2 := Lib.hid hd
  have HW := Lib.hid hz1
  have HB := Lib.hid hbw
  have HOK := Lib.hid hok
  have HV : Hid (x + y = if bx then -(dv ds : Int) else (dv ds : Int)) := by
    unfold Hid
    have hval := HVAL.out
    have h1 := SX.out.2.2.2
    have h2 := SY.out.2.2.2
    have h3 := HC.out
    have h4 := HGE.out
    cases bx <;> cases by_ <;> first | (exact absurd rfl h3) | skip
    · rw [if_neg (by decide)] at h1 ⊢; rw [if_pos rfl] at h2; omega
    · rw [if_pos rfl] at h1 ⊢; rw [if_neg (by decide)] at h2; omega
  have HL : Hid (ds.length ≤ capMax) := by
    have h1 := HLX.out
    have h2 := HLY.out
    have h3 := hL
    have hlen := HLEN.out
    unfold Hid
    show _ ≤ 17592186044416; omega
  clear hd hz1 hbw hbel hok z0 z1 f0 f1
  refine planEnd ?_
  go_wp2_with fail
  have hb2 : Blk ((w1.setCell ⟨g, 0, none⟩ (.bool bx)).setCell ⟨g, 1, none⟩ (.slice A ds.length c)) g tI #[.bool bx, .slice A ds.length c] := (HW.out.set_ 0 _).set_ 1 _
  have hd2 : Digs ((w1.setCell ⟨g, 0, none⟩ (.bool bx)).setCell ⟨g, 1, none⟩ (.slice A ds.length c)) A ds := (H2.out.far HW.out tI_ne 0 _).far (HW.out.set_ 0 _) tI_ne 1 _
  have HB2 := Lib.hid hb2
  have HD2 := Lib.hid hd2
  have HG : Hid (w.grownBy ((w1.setCell ⟨g, 0, none⟩ (.bool bx)).setCell ⟨g, 1, none⟩ (.slice A ds.length c)) (some g)) := (grown_of_below HB.out (some g)).trans ((setCell_grown w1 g 0 (.bool bx)).trans (setCell_grown _ g 1 (.slice A ds.length c)))
  clear hb2 hd2
  refine (trim_any g bx A c ds _ HB2.out HD2.out hc HL.out).mono ?_
  rintro e w3 ⟨rfl, ht⟩
  have HT := Lib.hid ht
  clear ht
  go_wp2_with fail
  go_ret
  exact ⟨rfl, put_of_trim HG.out HB2.out HD2.out HOK.out hc HL.out HT.out HV.out⟩
set_option maxRecDepth 20000 in
set_option maxHeartbeats 4000000 in
theorem add_lt (g gx ox gy oy : Nat) (x y : Int) (L : Nat) (bx by_ : Bool) (xs ys : List Nat) (w : World) (hg : IntBlk w g) (hx : IntAt w gx ox bx xs) (hy : IntAt w gy oy by_ ys) (sx : IsZ bx xs x) (sy : IsZ by_ ys y) (fx : Fits x L) (fy : Fits y L) (hL : L < 17592186044416) (hs : bx ≠ by_) (hlt : dv xs < dv ys) :
    Calls Try.prog 80 #[.pointer (some ⟨g, 0, none⟩), .pointer (some ⟨gx, ox, none⟩), .pointer (some ⟨gy, oy, none⟩)] w fun e w' => e = .returned (.pointer (some ⟨g, 0, none⟩)) ∧ PutZ w w' g (x + y) := by
  obtain ⟨tx, cx, Ax, capx, hbx, _, hx0, hx1, hcx, hmx, hdx⟩ := hx
  obtain ⟨ty, cy, Ay, capy, hby, _, hy0, hy1, hcy, hmy, hdy⟩ := hy
  obtain ⟨zx, zy, hzb⟩ := hg
  have c0 := hbx.cell ox hx0
  have c1 := hbx.cell (ox + 1) hx1
  have c2 := hby.cell oy hy0
  have c3 := hby.cell (oy + 1) hy1
  have HZB := Lib.hid hzb
  have HDX := Lib.hid hdx
  have HDY := Lib.hid hdy
  have LX := Lib.hid hbx.lt
  have LY := Lib.hid hby.lt
  have HLX := Lib.hid (sx.len fx)
  have HLY := Lib.hid (sy.len fy)
  have KX := Lib.hid sx.1
  have KY := Lib.hid sy.1
  have NX := Lib.hid sx.2.1
  have NY := Lib.hid sy.2.1
  have SX := Lib.hid sx
  have SY := Lib.hid sy
  have HC := Lib.hid hs
  have HGE := Lib.hid hlt
  have AX : Hid (IntAt w gx ox bx xs) := ⟨tx, cx, Ax, capx, hbx, by assumption, hx0, hx1, hcx, hmx, hdx⟩
  have AY : Hid (IntAt w gy oy by_ ys) := ⟨ty, cy, Ay, capy, hby, by assumption, hy0, hy1, hcy, hmy, hdy⟩
  have HCM : Hid (cmpN (dv xs) (dv ys) = -1) := cmpN_lt hlt
  clear hbx hx0 hx1 hcx hmx hdx hby hy0 hy1 hcy hmy hdy hzb sx sy
  have d1 : (bx == by_) = false := by simp [hs]
  clear hs hlt
  go_enter Try.func80, Try.ntmps80
  go_wp2_with fail
  go_quiet (fail)
  go_wp2_with fail
  clear d1
  refine (cmpAbs_any gx ox gy oy bx by_ xs ys _ (AX.out.drewN _) (AY.out.drewN _) KX.out NX.out KY.out NY.out).mono ?_
  rintro e w0 ⟨rfl, m0, rfl⟩
  rw [HCM.out]
  go_wp2_with fail
  refine wp_region_plan [(0, 0), (1, 0), (2, 0), (3, 0), (4, 0), (5, 1), (6, 0), (7, 0), (8, 0), (9, 1), (10, 0), (11, 0), (12, 0), (13, 1), (14, 2), (15, 0), (16, 0), (17, 3), (18, 0), (19, 0), (20, 3)] (fun w' => w'.cell? ⟨gx, ox, none⟩ = some (.bool bx) ∧ w'.cell? ⟨gx, ox + 1, none⟩ = some (.slice Ax xs.length capx) ∧ w'.cell? ⟨gy, oy, none⟩ = some (.bool by_) ∧ w'.cell? ⟨gy, oy + 1, none⟩ = some (.slice Ay ys.length capy) ∧ Below w.heap.size w w') (by kernel_rfl) (by kernel_rfl) (fun _ d _ _ _ h => by cases d <;> exact h) ⟨c0, c1, c2, c3, Below.drew (below_drewN (Below.refl _ _) _)⟩ ?_
  iterate 14 ((first | (refine plan0 (v := ?_) rfl rfl (by rfl) ?_ ?_) | (refine plan1 (v := ?_) rfl rfl (by rfl) ?_ ?_)); rotate_left; (first | (intro w'; go_simp; with_reducible rfl) | (intro w' hS; obtain ⟨h1, h2, h3, h4, h5⟩ := hS; go_simp; with_reducible rfl)); simp only [List.setIfInBounds_toArray, List.set_cons_zero, List.set_cons_succ])
  refine plan2 rfl rfl fun K' hK' => ?_
  go_simp
  refine (less_any Ay Ax ys xs capy capx _ (TSeg.drewN HDY.out _) (TSeg.drewN HDX.out _) KY.out KX.out (by have := HLY.out; show _ ≤ 17592186044416; omega) (by rcases Nat.lt_or_ge ys.length xs.length with h | h; exact absurd (dv_len_lt KY.out NX.out h) (by have := HGE.out; omega); exact h) (by have := HGE.out; omega)).mono ?_
  rintro e w1 ⟨A, c, ds, rfl, hc, hd, hok, ⟨hlen, hval⟩, hbel⟩
  have HLEN := Lib.hid hlen
  have HVAL := Lib.hid hval
  clear hlen hval
  dsimp only
  have hbw : Below w.heap.size w w1 := (Below.drew (below_drewN (Below.refl _ _) _)).trans hbel
  refine hK' _ _ ⟨(hbw.cell (p := ⟨gx, ox, none⟩) LX.out).trans c0, (hbw.cell (p := ⟨gx, ox + 1, none⟩) LX.out).trans c1, (hbw.cell (p := ⟨gy, oy, none⟩) LY.out).trans c2, (hbw.cell (p := ⟨gy, oy + 1, none⟩) LY.out).trans c3, hbw⟩ ?_
  clear hK' K' c0 c1 c2 c3
  have hz1 := HZB.out.below hbw HZB.out.lt
  have z0 := hz1.cell 0 rfl
  have z1 := hz1.cell 1 rfl
  have f0 := hz1.frozen 0
  have f1 := hz1.frozen 1
  iterate 2 ((refine plan0 (v := ?_) rfl rfl (by rfl) ?_ ?_); rotate_left; (intro w'; go_simp; with_reducible rfl); simp only [List.setIfInBounds_toArray, List.set_cons_zero, List.set_cons_succ])
  refine plan3 rfl rfl fun K' hK' => ?_
  go_simp
  refine hK' _ _ ?_
  clear hK' K'
  iterate 2 ((refine plan0 (v := ?_) rfl rfl (by rfl) ?_ ?_); rotate_left; (intro w'; go_simp; with_reducible rfl); simp only [List.setIfInBounds_toArray, List.set_cons_zero, List.set_cons_succ])
  refine plan3 rfl rfl fun K' hK' => ?_
  go_simp
  refine hK' _ _ ?_
  clear hK' K'
  have H2 := Lib.hid hd
  have HW := Lib.hid hz1
  have HB := Lib.hid hbw
  have HOK := Lib.hid hok
  have HV : Hid (x + y = if by_ then -(dv ds : Int) else (dv ds : Int)) := by
    unfold Hid
    have hval := HVAL.out
    have h1 := SX.out.2.2.2
    have h2 := SY.out.2.2.2
    have h3 := HC.out
    have h4 := HGE.out
    cases bx <;> cases by_ <;> first | (exact absurd rfl h3) | skip
    · rw [if_neg (by decide)] at h1; rw [if_pos rfl] at h2 ⊢; omega
    · rw [if_pos rfl] at h1; rw [if_neg (by decide)] at h2 ⊢; omega
  have HL : Hid (ds.length ≤ capMax) := by
    have h1 := HLX.out
    have h2 := HLY.out
    have h3 := hL
    have hlen := HLEN.out
    unfold Hid
    show _ ≤ 17592186044416; omega
  clear hd hz1 hbw hbel hok z0 z1 f0 f1
  refine planEnd ?_
  go_wp2_with fail
  have hb2 : Blk ((w1.setCell ⟨g, 0, none⟩ (.bool by_)).setCell ⟨g, 1, none⟩ (.slice A ds.length c)) g tI #[.bool by_, .slice A ds.length c] := (HW.out.set_ 0 _).set_ 1 _
  have hd2 : Digs ((w1.setCell ⟨g, 0, none⟩ (.bool by_)).setCell ⟨g, 1, none⟩ (.slice A ds.length c)) A ds := (H2.out.far HW.out tI_ne 0 _).far (HW.out.set_ 0 _) tI_ne 1 _
  have HB2 := Lib.hid hb2
  have HD2 := Lib.hid hd2
  have HG : Hid (w.grownBy ((w1.setCell ⟨g, 0, none⟩ (.bool by_)).setCell ⟨g, 1, none⟩ (.slice A ds.length c)) (some g)) := (grown_of_below HB.out (some g)).trans ((setCell_grown w1 g 0 (.bool by_)).trans (setCell_grown _ g 1 (.slice A ds.length c)))
  clear hb2 hd2
  refine (trim_any g by_ A c ds _ HB2.out HD2.out hc HL.out).mono ?_
  rintro e w3 ⟨rfl, ht⟩
  have HT := Lib.hid ht
  clear ht
  go_wp2_with fail
  go_ret
  exact ⟨rfl, put_of_trim HG.out HB2.out HD2.out HOK.out hc HL.out HT.out HV.out⟩
theorem add_any (g gx ox gy oy : Nat) (x y : Int) (L : Nat) (w : World) (hg : IntBlk w g) (hx : IntZ w gx ox x) (hy : IntZ w gy oy y) (fx : Fits x L) (fy : Fits y L) (hL : L < 17592186044416) :
    Calls Try.prog 80 #[.pointer (some ⟨g, 0, none⟩), .pointer (some ⟨gx, ox, none⟩), .pointer (some ⟨gy, oy, none⟩)] w fun e w' => e = .returned (.pointer (some ⟨g, 0, none⟩)) ∧ PutZ w w' g (x + y) := by
  obtain ⟨bx, xs, ax, sx⟩ := hx
  obtain ⟨by_, ys, ay, sy⟩ := hy
  by_cases hs : bx = by_
  · exact add_same g gx ox gy oy x y L bx by_ xs ys w hg ax ay sx sy fx fy hL hs
  by_cases hge : dv ys ≤ dv xs
  · exact add_ge g gx ox gy oy x y L bx by_ xs ys w hg ax ay sx sy fx fy hL hs hge
  · exact add_lt g gx ox gy oy x y L bx by_ xs ys w hg ax ay sx sy fx fy hL hs (by omega)
end Go.Proofs.Ytkffakekakhgdaa
