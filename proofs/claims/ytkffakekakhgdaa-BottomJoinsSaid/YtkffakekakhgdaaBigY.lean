/- Whole numbers in memory: products. No condition. -/
import Derived.Test.YtkffakekakhgdaaBigN
import Derived.Test.YtkffakekakhgdaaBigF
import Derived.Test.YtkffakekakhgdaaBigX
import Derived.StillTailTactics
namespace Go.Proofs.Ytkffakekakhgdaa
open Go.ChangeShapes Go.WideShapes Go.ChangeAt Go.RowKit
set_option linter.unusedVariables false

theorem mul_sign {bx by_ : Bool} {xs ys : List Nat} {x y : Int} (hx : IsZ bx xs x) (hy : IsZ by_ ys y) : x * y = if (bx != by_) = true then -((dv xs * dv ys : Nat) : Int) else ((dv xs * dv ys : Nat) : Int) := by
  have h1 := hx.2.2.2
  have h2 := hy.2.2.2
  rw [Int.natCast_mul]
  cases bx <;> cases by_
  · rw [if_neg (by decide)] at h1 h2; rw [if_neg (by decide), h1, h2]
  · rw [if_neg (by decide)] at h1; rw [if_pos rfl] at h2; rw [if_pos (by decide), h1, h2, Int.mul_neg]
  · rw [if_neg (by decide)] at h2; rw [if_pos rfl] at h1; rw [if_pos (by decide), h1, h2, Int.neg_mul]
  · rw [if_pos rfl] at h1 h2; rw [if_neg (by decide), h1, h2, Int.neg_mul_neg]

set_option maxRecDepth 20000 in
set_option maxHeartbeats 4000000 in
theorem mul_any (g gx ox gy oy : Nat) (x y : Int) (L : Nat) (w : World) (hg : IntBlk w g) (hx : IntZ w gx ox x) (hy : IntZ w gy oy y) (fx : Fits x L) (fy : Fits y L) (hL : L < 8796093022208) :
    Calls Try.prog 74 #[.pointer (some ⟨g, 0, none⟩), .pointer (some ⟨gx, ox, none⟩), .pointer (some ⟨gy, oy, none⟩)] w fun e w' => e = .returned (.pointer (some ⟨g, 0, none⟩)) ∧ PutZ w w' g (x * y) := by
  obtain ⟨bx, xs, ⟨tx, cx, Ax, capx, hbx, _, hx0, hx1, hcx, hmx, hdx⟩, sx⟩ := hx
  obtain ⟨by_, ys, ⟨ty, cy, Ay, capy, hby, _, hy0, hy1, hcy, hmy, hdy⟩, sy⟩ := hy
  obtain ⟨zx, zy, hzb⟩ := hg
  have c0 := hbx.cell ox hx0
  have c1 := hbx.cell (ox + 1) hx1
  have c2 := hby.cell oy hy0
  have c3 := hby.cell (oy + 1) hy1
  have C0 := Lib.hid c0
  have C1 := Lib.hid c1
  have C2 := Lib.hid c2
  have C3 := Lib.hid c3
  have HZB := Lib.hid hzb
  have HDX := Lib.hid hdx
  have HDY := Lib.hid hdy
  have LX := Lib.hid hbx.lt
  have LY := Lib.hid hby.lt
  have lx : xs.length < 8796093022208 := Nat.lt_of_le_of_lt (sx.len fx) hL
  have ly : ys.length < 8796093022208 := Nat.lt_of_le_of_lt (sy.len fy) hL
  have KX := Lib.hid sx.1
  have KY := Lib.hid sy.1
  have HS := Lib.hid (mul_sign sx sy)
  clear hbx hx0 hx1 hcx hmx hdx hby hy0 hy1 hcy hmy hdy hzb sx sy
  have hmk := run_make_row' (P := Try.prog) 71 tU (.int .u32 0) 4 Try.underlying71 (by kernel_rfl) rfl .i64 .i64 (xs.length + ys.length) (by omega) (by omega)
  rw [Int.natCast_add] at hmk
  go_enter Try.func74, Try.ntmps74
  go_wp2_with fail
  have m1 : IntKind.i64.wrap ((xs.length : Int) + (ys.length : Int)) = (xs.length : Int) + (ys.length : Int) := IntWalk.i64_in _ (by omega)
  go_still_tail 11, (by kernel_rfl)
  change wpList _ _ _ _ _ w.drew
  clear m1 c0 c1 c2 c3
  have cA : ∀ o : Obj, (w.alloc o).cell? ⟨gx, ox + 1, none⟩ = some (.slice Ax xs.length capx) := fun o => (World.cell?_alloc_lt w o ⟨gx, ox + 1, none⟩ LX.out).trans C1.out
  go_wp2_with fail
  clear hmk cA
  go_loopw [30] (fun s30 wr => ∃ (i : Nat) (h : Nat → Nat), i ≤ xs.length ∧ s30 = .int .i64 i ∧ Hid (MRow (gd xs) (gd ys) h ys.length (xs.length + ys.length) i) ∧ wr.rowIs w.heap.size tU (xs.length + ys.length) (fun k => dgt (h k)) ∧ Below w.heap.size w wr) (fun s30 _ => xs.length - (intOf s30).toNat)
  case atStart => exact ⟨0, fun _ => 0, Nat.zero_le _, rfl, MRow.first _ _ _ _, (World.rowIs_made w.drew (.int .u32 0) (xs.length + ys.length) tU).congr (fun _ _ => rfl), (Below.drew (Below.refl _ _)).alloc (Nat.le_refl _) _⟩
  case round =>
    obtain ⟨i, h, hi, rfl, hm, hrow, hbel⟩ := hrel
    have HR := Lib.hid hrow
    have HB := Lib.hid hbel
    by_cases hlt : i < xs.length
    · obtain ⟨ad, rfl, hca⟩ := (HDX.out.below hbel).cell (u32s_get hlt)
      have c3 := (hbel.cell (p := ⟨gy, oy + 1, none⟩) LY.out).trans C3.out
      have ha := KX.out i hlt
      have i1 : (i : Int) < (xs.length : Int) := by omega
      clear hrow hbel
      obtain ⟨wo, rfl⟩ : ∃ wo : World, wo = wr := ⟨_, rfl⟩
      generalize hga : gd xs i = a at *
      have HGA := Lib.hid hga
      clear hga
      go_wp2_with fail
      clear hca
      go_loopw [40, 10] (fun s40 s10 wr => ∃ (j c : Nat) (h : Nat → Nat), j ≤ ys.length ∧ s40 = .int .i64 j ∧ s10 = .int .u64 c ∧ c < 4294967296 ∧ Hid (MInv (gd xs) (gd ys) h ys.length (xs.length + ys.length) i j c) ∧ wr.rowIs w.heap.size tU (xs.length + ys.length) (fun k => dgt (h k)) ∧ Below w.heap.size w wr) (fun s40 _ _ => ys.length - (intOf s40).toNat)
      case atStart => exact ⟨0, 0, h, Nat.zero_le _, rfl, rfl, by decide, hm.out.begin, HR.out, HB.out⟩
      case round =>
        obtain ⟨j, c, h, hj, rfl, rfl, hc, hm, hrow, hbel⟩ := hrel
        have HR := Lib.hid hrow
        have HB := Lib.hid hbel
        by_cases hjlt : j < ys.length
        · obtain ⟨ae, rfl, hcb⟩ := (HDY.out.below hbel).cell (u32s_get hjlt)
          have ho := hrow.cell (show i + j < xs.length + ys.length by omega)
          have hf := hrow.frozen (i + j)
          have hb := KY.out j hjlt
          have hk := hm.out.1 (i + j) (by omega)
          have i2 : (j : Int) < (ys.length : Int) := by omega
          have i3 : (i : Int) + (j : Int) < (xs.length : Int) + (ys.length : Int) := by omega
          have i4 : ((i : Int) + (j : Int)).toNat = i + j := by omega
          have hs := hm.out.sum_lt (i := i) (j := j) (by rw [HGA.out]; exact ha) hb (by omega)
          have HM := Lib.hid (hm.out.step hjlt (by omega) hs)
          have HH : Hid (c + (gd xs i * gd ys j + h (i + j)) = c + (a * gd ys j + h (i + j))) := by unfold Hid; rw [HGA.out]
          rw [HH.out] at hs HM
          clear hrow hbel HH
          have HHK : Hid (h (i + j) = h (i + j)) := rfl
          generalize hgb : gd ys j = b at *
          generalize hgh : h (i + j) = o at *
          clear hgb hgh HHK
          have e1 : (0 : Int) ≤ (a : Int) * (b : Int) := Int.mul_nonneg (by omega) (by omega)
          have e2 : (c : Int) + ((a : Int) * (b : Int) + (o : Int)) < 18446744073709551616 := by rw [← Int.natCast_mul]; omega
          have e3 : (a : Int) * (b : Int) + (o : Int) < 18446744073709551616 := by omega
          have e4 : (a : Int) * (b : Int) < 18446744073709551616 := by omega
          go_wp2_with fail
          go_roundw
          case rel =>
            refine ⟨j + 1, (c + (a * b + o)) / 4294967296, _, by omega, by go_num, ?_, by omega, HM.out, (HR.out.set (i + j) _).congr (fun k _ => ?_), HB.out.setCell (Nat.le_refl _) _⟩
            · simp
            · by_cases h1 : k = i + j
              · subst h1; rw [if_pos rfl, upd_same]; simp [dgt]
              · rw [if_neg h1, upd_other h1]
          case measure => simp [intOf]; omega
        · obtain rfl : j = ys.length := by omega
          have ho := hrow.cell (show i + ys.length < xs.length + ys.length by omega)
          have hf := hrow.frozen (i + ys.length)
          have i3 : (i : Int) + (ys.length : Int) < (xs.length : Int) + (ys.length : Int) := by omega
          have i4 : ((i : Int) + (ys.length : Int)).toNat = i + ys.length := by omega
          have c3 := (hbel.cell (p := ⟨gy, oy + 1, none⟩) LY.out).trans C3.out
          have HM := Lib.hid (hm.out.last (by omega))
          clear hrow hbel
          go_wp2_with fail
          go_roundw
          case rel =>
            refine ⟨i + 1, _, by omega, by go_num, HM.out, (HR.out.set (i + ys.length) _).congr (fun k _ => ?_), HB.out.setCell (Nat.le_refl _) _⟩
            by_cases h1 : k = i + ys.length
            · subst h1; rw [if_pos rfl, upd_same]
            · rw [if_neg h1, upd_other h1]
          case measure => simp [intOf]; omega
    · obtain rfl : i = xs.length := by omega
      have c0 := (hbel.cell (p := ⟨gx, ox, none⟩) LX.out).trans C0.out
      have c2 := (hbel.cell (p := ⟨gy, oy, none⟩) LY.out).trans C2.out
      have hz1 := HZB.out.below HB.out HZB.out.lt
      have z0 := hz1.cell 0 rfl
      have z1 := hz1.cell 1 rfl
      have f0 := hz1.frozen 0
      have f1 := hz1.frozen 1
      have HW := Lib.hid hz1
      have HD : Hid (Digs wr (some ⟨w.heap.size, 0, none⟩) (fl h (xs.length + ys.length))) := digs_of_row hrow (fun _ _ => rfl)
      have HOK := Lib.hid (dok_fl hm.out.1)
      have HV : Hid (x * y = if (bx != by_) = true then -(dv (fl h (xs.length + ys.length)) : Int) else (dv (fl h (xs.length + ys.length)) : Int)) := by
        have e : dv (fl h (xs.length + ys.length)) = dv xs * dv ys := by rw [dv_fl, hm.out.2.2]; rfl
        unfold Hid; rw [e]; exact HS.out
      have HLEN := Lib.hid (fl_len h (xs.length + ys.length))
      clear hrow hbel hz1
      go_wp2_with fail
      refine wp_region_plan [(0, 0), (1, 0), (2, 0), (3, 0), (4, 0), (5, 1), (6, 0), (7, 0), (8, 0), (9, 1), (10, 0), (11, 0), (12, 0), (13, 0), (14, 3), (15, 0), (16, 0), (17, 3)] (fun w' => w'.cell? ⟨gx, ox, none⟩ = some (.bool bx) ∧ w'.cell? ⟨gy, oy, none⟩ = some (.bool by_)) (by kernel_rfl) (by kernel_rfl) (fun _ d _ _ _ h => by cases d <;> exact h) ⟨c0, c2⟩ ?_
      iterate 14 ((first | (refine plan0 (v := ?_) rfl rfl (by rfl) ?_ ?_) | (refine plan1 (v := ?_) rfl rfl (by rfl) ?_ ?_)); rotate_left; (first | (intro w'; go_simp; with_reducible rfl) | (intro w' hS; obtain ⟨h1, h2⟩ := hS; go_simp; with_reducible rfl)); simp only [List.setIfInBounds_toArray, List.set_cons_zero, List.set_cons_succ])
      refine plan3 rfl rfl fun K' hK' => ?_
      go_simp
      refine hK' _ _ ?_
      clear hK' K'
      iterate 2 ((refine plan0 (v := ?_) rfl rfl (by rfl) ?_ ?_); rotate_left; (intro w'; go_simp; with_reducible rfl); simp only [List.setIfInBounds_toArray, List.set_cons_zero, List.set_cons_succ])
      refine plan3 rfl rfl fun K' hK' => ?_
      go_simp
      refine hK' _ _ ?_
      clear hK' K' z0 z1 f0 f1 c0 c2
      refine planEnd ?_
      go_wp2_with fail
      have hl : (fl h (xs.length + ys.length)).length ≤ capMax := by rw [HLEN.out]; show _ ≤ 17592186044416; omega
      have hb2 : Blk ((wr.setCell ⟨g, 0, none⟩ (.bool (!(bx == by_)))).setCell ⟨g, 1, none⟩ (.slice (some ⟨w.heap.size, 0, none⟩) (xs.length + ys.length) (xs.length + ys.length))) g tI #[.bool (!(bx == by_)), .slice (some ⟨w.heap.size, 0, none⟩) (fl h (xs.length + ys.length)).length (xs.length + ys.length)] := by
        rw [HLEN.out]; exact (HW.out.set_ 0 _).set_ 1 _
      have hd2 : Digs ((wr.setCell ⟨g, 0, none⟩ (.bool (!(bx == by_)))).setCell ⟨g, 1, none⟩ (.slice (some ⟨w.heap.size, 0, none⟩) (xs.length + ys.length) (xs.length + ys.length))) (some ⟨w.heap.size, 0, none⟩) (fl h (xs.length + ys.length)) := (HD.out.far HW.out tI_ne 0 _).far (HW.out.set_ 0 _) tI_ne 1 _
      have HB2 := Lib.hid hb2
      have HD2 := Lib.hid hd2
      have HL := Lib.hid hl
      have HG : Hid (w.grownBy ((wr.setCell ⟨g, 0, none⟩ (.bool (!(bx == by_)))).setCell ⟨g, 1, none⟩ (.slice (some ⟨w.heap.size, 0, none⟩) (xs.length + ys.length) (xs.length + ys.length))) (some g)) := (grown_of_below HB.out (some g)).trans ((setCell_grown wr g 0 (.bool (!(bx == by_)))).trans (setCell_grown _ g 1 _))
      clear hb2 hd2 hl
      have hcall := trim_any g (!(bx == by_)) (some ⟨w.heap.size, 0, none⟩) (xs.length + ys.length) (fl h (xs.length + ys.length)) _ (HB2.out.drew) (HD2.out.drew) (by rw [HLEN.out]; exact Nat.le_refl _) HL.out
      refine hcall.mono ?_
      rintro e w3 ⟨rfl, ht⟩
      have HT := Lib.hid ht
      clear ht hcall
      go_wp2_with fail
      go_ret
      exact ⟨rfl, put_of_trim (HG.out.trans (grown_drew _ _)) HB2.out.drew HD2.out.drew HOK.out (by rw [HLEN.out]; exact Nat.le_refl _) HL.out HT.out HV.out⟩
end Go.Proofs.Ytkffakekakhgdaa
