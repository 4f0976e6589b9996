/- Whole numbers in memory, not below 0: the lowest 64 bits by And. No condition. -/
import Derived.Test.YtaehehoeidnidaaBigC
import Derived.Test.YtaehehoeidnidaaBigU
import Derived.Test.YtaehehoeidnidaaBigF
import Derived.Test.YtaehehoeidnidaaBigXo
import Derived.BigQuiet
namespace Go.Proofs.Ytaehehoeidnidaa
open Go.ChangeShapes Go.WideShapes Go.ChangeAt Go.RowKit
set_option linter.unusedVariables false

theorem w64k {n : Nat} (h : n < 9223372036854775807) : wrap64 ((n : Int) + 1) = ((n + 1 : Nat) : Int) := by unfold wrap64; omega
theorem mask_digits {ys : List Nat} (k : dok ys) (n : dnorm ys) (h : dv ys = 18446744073709551615) : ys.length = 2 ∧ gd ys 0 = 4294967295 ∧ gd ys 1 = 4294967295 := by
  have h1 := len_le n (n := 2) (by rw [h]; decide)
  have h2 : ys.length = 2 := by
    rcases (by omega : ys.length = 0 ∨ ys.length = 1 ∨ ys.length = 2) with e | e | e
    · have := dv_lt k; rw [e, h] at this; exact absurd this (by decide)
    · have := dv_lt k; rw [e, h] at this; exact absurd this (by decide)
    · exact e
  have h3 := gd_lt32 k 0
  have h4 := gd_lt32 k 1
  have h5 : dv ys = gd ys 0 + gd ys 1 * 4294967296 := by
    unfold dv; rw [h2]; simp [fv, bp]
  omega
theorem low_digits {xs : List Nat} (k : dok xs) (n : Nat) (hn : (n = xs.length ∧ xs.length < 2) ∨ (n = 2 ∧ 2 ≤ xs.length)) : fv (gd xs) n = dv xs % 18446744073709551616 := by
  have e2 : bp 2 = 18446744073709551616 := rfl
  rcases hn with ⟨rfl, h⟩ | ⟨rfl, h⟩
  · have h1 := dv_lt k
    have h2 := bp_le (show xs.length ≤ 2 by omega)
    rw [Nat.mod_eq_of_lt (by omega)]; rfl
  · obtain ⟨m, hm⟩ : ∃ m, xs.length = 2 + m := ⟨xs.length - 2, by omega⟩
    have h1 : fv (gd xs) 2 < bp 2 := fv_lt fun i hi => k i (by omega)
    unfold dv
    rw [hm, fv_add, e2, Nat.add_mul_mod_self_left, Nat.mod_eq_of_lt (by omega)]
theorem and_mask (a : Nat) (h : a < 4294967296) : bits .and .u32 (a : Int) 4294967295 = (a : Int) := by
  have h1 := u32_and_nat a 4294967295 h (by decide)
  have e : a &&& 4294967295 = a % 4294967296 := Nat.and_two_pow_sub_one_eq_mod a 32
  rw [e, Nat.mod_eq_of_lt h] at h1
  exact h1
set_option maxRecDepth 20000 in
set_option maxHeartbeats 4000000 in
theorem and_any (g gx ox gy oy x : Nat) (w : World) (hg : IntBlk w g) (hx : IntZ w gx ox x) (hy : IntZ w gy oy 18446744073709551615) :
    Calls Try.prog 163 #[.pointer (some ⟨g, 0, none⟩), .pointer (some ⟨gx, ox, none⟩), .pointer (some ⟨gy, oy, none⟩)] w fun e w' => e = .returned (.pointer (some ⟨g, 0, none⟩)) ∧ PutZ w w' g ((x % 18446744073709551616 : Nat) : Int) := by
  obtain ⟨bx, xs, ⟨tx, csx, Ax, cx, hbx, _, hx0, hx1, hcx, hmx, hdx⟩, sx⟩ := hx
  obtain ⟨by_, ys, ⟨ty, csy, Ay, cy, hby, _, hy0, hy1, hcy, hmy, hdy⟩, sy⟩ := hy
  obtain rfl : bx = false := by rw [sx.neg_iff, decide_eq_false (by omega)]
  obtain rfl : by_ = false := by rw [sy.neg_iff, decide_eq_false (by omega)]
  have vx : dv xs = x := by have := sx.2.2.2; rw [if_neg (by decide)] at this; omega
  have vy : dv ys = 18446744073709551615 := by have := sy.2.2.2; rw [if_neg (by decide)] at this; omega
  obtain ⟨ly, y0, y1⟩ := mask_digits sy.1 sy.2.1 vy
  obtain ⟨zx, zy, hzb⟩ := hg
  have c1 := hbx.cell (ox + 1) hx1
  have d1 := hby.cell (oy + 1) hy1
  have HZB := Lib.hid hzb
  have HDX := Lib.hid hdx
  have HDY := Lib.hid hdy
  have HMX := Lib.hid hmx
  have LX := Lib.hid hbx.lt
  have LY := Lib.hid hby.lt
  have KX := Lib.hid sx.1
  have HYD := Lib.hid (And.intro y0 y1)
  have hlow := fun n h => low_digits sx.1 n h
  rw [vx] at hlow
  obtain ⟨lx, hlx⟩ : ∃ n, n = xs.length := ⟨_, rfl⟩
  obtain ⟨m2, hm2⟩ : ∃ n, n = 2 := ⟨_, rfl⟩
  rw [ly, ← hm2] at d1
  rw [← hlx] at c1
  have hcase : ((lx : Int) < (m2 : Int) ∧ Hid (lx ≤ xs.length ∧ lx ≤ 2 ∧ fv (gd xs) lx = x % 18446744073709551616)) ∨ ((m2 : Int) < (lx : Int) ∧ Hid (m2 ≤ xs.length ∧ m2 ≤ 2 ∧ fv (gd xs) m2 = x % 18446744073709551616)) ∨ (lx = m2 ∧ Hid (m2 ≤ xs.length ∧ m2 ≤ 2 ∧ fv (gd xs) m2 = x % 18446744073709551616)) := by
    by_cases h : lx < 2
    · exact .inl ⟨by omega, Lib.hid (And.intro (by omega) (And.intro (by omega) (hlow lx (.inl ⟨hlx, by omega⟩))))⟩
    · have h2 := Lib.hid (And.intro (show m2 ≤ xs.length by omega) (And.intro (show m2 ≤ 2 by omega) (hlow m2 (.inr ⟨hm2, by omega⟩))))
      by_cases h3 : lx = 2
      · exact .inr (.inr ⟨by omega, h2⟩)
      · exact .inr (.inl ⟨by omega, h2⟩)
  have HLY := Lib.hid (And.intro ly (And.intro hlx hm2))
  have HC1 := Lib.hid c1
  have HD1 := Lib.hid d1
  clear hbx hx0 hx1 hcx hmx hdx hby hy0 hy1 hcy hmy hdy hzb sx sy vx vy ly y0 y1 hlow hlx hm2
  rcases hcase with ⟨hlt, hn⟩ | ⟨hlt, hn⟩ | ⟨hlt, hn⟩
  · have HNX := Lib.hid (And.intro hn.out.1 hn.out.2.1)
    have hmk := run_make_row' (P := Try.prog) 60 tU (.int .u32 0) 4 Try.underlying60 (by kernel_rfl) rfl .i64 .i64 lx (by have := hn.out; omega) (by have := hn.out; omega)
    go_enter Try.func163, Try.ntmps163
    go_wp2_with fail
    go_quiet (fail)
    go_wp2_with fail
    clear hmk hlt c1 d1
    have HB0 : Hid (Below w.heap.size w (w.drewN nq)) := below_drewN (Below.refl _ _) _
    have e0 : (w.drewN nq).heap.size = w.heap.size := rfl
    go_loopw [25] (fun s25 wr => ∃ k : Nat, k ≤ lx ∧ s25 = .int .i64 k ∧ wr.rowIs w.heap.size tU lx (fun i => dgt (if i < k then gd xs i else 0)) ∧ Below w.heap.size w wr) (fun s25 _ => lx - (intOf s25).toNat)
    case atStart => exact ⟨0, Nat.zero_le _, rfl, (World.rowIs_made (w.drewN nq) (.int .u32 0) lx tU).congr (fun _ _ => by rw [if_neg (Nat.not_lt_zero _)]; rfl), HB0.out.alloc (Nat.le_refl _) _⟩
    case round =>
      obtain ⟨k, hk, rfl, hrow, hbel⟩ := hrel
      have HR := Lib.hid hrow
      have HB := Lib.hid hbel
      by_cases hlt : k < lx
      · obtain ⟨ad, rfl, hca⟩ := (HDX.out.below hbel).cell (u32s_get (show k < xs.length by have := HNX.out; omega))
        obtain ⟨ae, rfl, hcb⟩ := (HDY.out.below hbel).cell (u32s_get (show k < ys.length by have := HNX.out; have := HLY.out; omega))
        have hyk : gd ys k = 4294967295 := by
          rcases (by have := HNX.out; omega : k = 0 ∨ k = 1) with e | e
          · rw [e]; exact HYD.out.1
          · rw [e]; exact HYD.out.2
        rw [hyk] at hcb
        have hax := and_mask (gd xs k) (gd_lt32 KX.out k)
        have c1 := (hbel.cell (p := ⟨gx, ox + 1, none⟩) LX.out).trans HC1.out
        have d1 := (hbel.cell (p := ⟨gy, oy + 1, none⟩) LY.out).trans HD1.out
        have hf := hrow.frozen k
        have hlt2 := hrow.lt
        have i1 : (k : Int) < (lx : Int) := by omega
        have i2 : (k : Int) < (lx : Int) := by have := HNX.out; have := HLY.out; omega
        have i3 : (k : Int) < (m2 : Int) := by have := HNX.out; have := HLY.out; omega
        have uk : Hid (wrap64 ((k : Int) + 1) = ((k + 1 : Nat) : Int)) := w64k (by have := HNX.out; omega)
        have hcr := hrow.cell hlt
        have HST : Hid (∀ v : Value, v = dgt (gd xs k) → (wr.setCell ⟨w.heap.size, k, none⟩ v).rowIs w.heap.size tU lx (fun i => dgt (if i < k + 1 then gd xs i else 0))) := fun v hv => (HR.out.set k v).congr fun i _ => by
          subst hv
          by_cases e : i = k
          · subst e; simp
          · by_cases e2 : i < k
            · rw [if_neg e, if_pos e2, if_pos (by omega)]
            · rw [if_neg e, if_neg e2, if_neg (by omega)]
        clear hrow hyk
        generalize gd xs k = a at *
        go_wp2_with fail
        refine wp_region_plan [(0, 0), (1, 0), (2, 0), (3, 0), (4, 0), (5, 1), (6, 0), (7, 0), (8, 1), (9, 0), (10, 0), (11, 0), (12, 1), (13, 0), (14, 0), (15, 1), (16, 0), (17, 0), (18, 3)] (fun w' => w'.cell? ⟨gx, ox + 1, none⟩ = some (.slice (some ad) lx cx) ∧ w'.cell? ⟨gy, oy + 1, none⟩ = some (.slice (some ae) m2 cy) ∧ w'.cell? (ad.add k) = some (dgt a) ∧ w'.cell? (ae.add k) = some (dgt 4294967295)) (by kernel_rfl) (by kernel_rfl) (fun _ d _ _ _ h => by cases d <;> exact h) ⟨c1, d1, hca, hcb⟩ ?_
        --LOOK2
        iterate 18 ((first | (refine plan0 (v := ?_) rfl rfl (by rfl) ?_ ?_) | (refine plan1 (v := ?_) rfl rfl (by rfl) ?_ ?_)); rotate_left; (first | (intro w'; go_simp; with_reducible rfl) | (intro w' hS; obtain ⟨h1, h2, h3, h4⟩ := hS; go_simp; with_reducible rfl)); simp only [List.setIfInBounds_toArray, List.set_cons_zero, List.set_cons_succ])
        refine plan3 rfl rfl fun K' hK' => ?_
        go_simp
        refine hK' _ _ ?_
        clear hK' K' hca hcb c1 d1
        refine planEnd ?_
        go_wp2_with fail
        go_roundw
        case rel => exact ⟨k + 1, by omega, by rw [uk.out], HST.out _ rfl, below_drewN (HB.out.setCell (Nat.le_refl _) _) 1⟩
        case measure => rw [uk.out]; simp [intOf]; omega
      · obtain rfl : k = lx := by omega
        have hz1 := HZB.out.below HB.out HZB.out.lt
        have z0 := hz1.cell 0 rfl
        have z1 := hz1.cell 1 rfl
        have f0 := hz1.frozen 0
        have f1 := hz1.frozen 1
        have HW := Lib.hid hz1
        have hd : Digs wr (some ⟨w.heap.size, 0, none⟩) (fl (gd xs) k) := digs_of_row hrow (fun i hi => by rw [if_pos hi])
        have HV2 : Hid (((x % 18446744073709551616 : Nat) : Int) = if false then -(dv (fl (gd xs) k) : Int) else (dv (fl (gd xs) k) : Int)) := by unfold Hid; rw [dv_fl, hn.out.2.2]; rfl
        have HOK : Hid (dok (fl (gd xs) k)) := dok_fl (fun i hi => KX.out i (by have := hn.out; omega))
        have HLE : Hid ((fl (gd xs) k).length = k) := fl_len (gd xs) k
        have H2 := Lib.hid hd
        have HLM : Hid (k ≤ capMax) := by have := HNX.out; unfold Hid; show k ≤ 17592186044416; omega
        clear hz1 hd hrow hbel hk hlt
        generalize fl (gd xs) k = ds at *
        go_wp2_with fail
        have HB2 : Hid (Blk ((wr.setCell ⟨g, 0, none⟩ (.bool false)).setCell ⟨g, 1, none⟩ (.slice (some ⟨w.heap.size, 0, none⟩) k k)) g tI #[.bool false, .slice (some ⟨w.heap.size, 0, none⟩) ds.length k]) := by rw [HLE.out]; exact (HW.out.set_ 0 _).set_ 1 _
        have HD2 : Hid (Digs ((wr.setCell ⟨g, 0, none⟩ (.bool false)).setCell ⟨g, 1, none⟩ (.slice (some ⟨w.heap.size, 0, none⟩) k k)) (some ⟨w.heap.size, 0, none⟩) ds) := (H2.out.far HW.out tI_ne 0 _).far (HW.out.set_ 0 _) tI_ne 1 _
        have HG : Hid (w.grownBy ((wr.setCell ⟨g, 0, none⟩ (.bool false)).setCell ⟨g, 1, none⟩ (.slice (some ⟨w.heap.size, 0, none⟩) k k)) (some g)) := (grown_of_below HB.out (some g)).trans ((setCell_grown wr g 0 (.bool false)).trans (setCell_grown _ g 1 (.slice (some ⟨w.heap.size, 0, none⟩) k k)))
        have HL1 : Hid (ds.length ≤ k) := by unfold Hid; rw [HLE.out]; exact Nat.le_refl _
        have HL2 : Hid (ds.length ≤ capMax) := by unfold Hid; rw [HLE.out]; exact HLM.out
        refine (trim_any g false (some ⟨w.heap.size, 0, none⟩) k ds _ HB2.out HD2.out HL1.out HL2.out).mono ?_
        rintro e w3 ⟨rfl, ht⟩
        have HT := Lib.hid ht
        clear ht
        go_wp2_with fail
        go_ret
        exact ⟨rfl, put_of_trim HG.out HB2.out HD2.out HOK.out HL1.out HL2.out HT.out HV2.out⟩
  · have HNX := Lib.hid (And.intro hn.out.1 hn.out.2.1)
    have hmk := run_make_row' (P := Try.prog) 60 tU (.int .u32 0) 4 Try.underlying60 (by kernel_rfl) rfl .i64 .i64 m2 (by have := hn.out; omega) (by have := hn.out; omega)
    go_enter Try.func163, Try.ntmps163
    go_wp2_with fail
    go_quiet (fail)
    go_wp2_with fail
    clear hmk hlt c1 d1
    have HB0 : Hid (Below w.heap.size w (w.drewN nq)) := below_drewN (Below.refl _ _) _
    have e0 : (w.drewN nq).heap.size = w.heap.size := rfl
    go_loopw [25] (fun s25 wr => ∃ k : Nat, k ≤ m2 ∧ s25 = .int .i64 k ∧ wr.rowIs w.heap.size tU m2 (fun i => dgt (if i < k then gd xs i else 0)) ∧ Below w.heap.size w wr) (fun s25 _ => m2 - (intOf s25).toNat)
    case atStart => exact ⟨0, Nat.zero_le _, rfl, (World.rowIs_made (w.drewN nq) (.int .u32 0) m2 tU).congr (fun _ _ => by rw [if_neg (Nat.not_lt_zero _)]; rfl), HB0.out.alloc (Nat.le_refl _) _⟩
    case round =>
      obtain ⟨k, hk, rfl, hrow, hbel⟩ := hrel
      have HR := Lib.hid hrow
      have HB := Lib.hid hbel
      by_cases hlt : k < m2
      · obtain ⟨ad, rfl, hca⟩ := (HDX.out.below hbel).cell (u32s_get (show k < xs.length by have := HNX.out; omega))
        obtain ⟨ae, rfl, hcb⟩ := (HDY.out.below hbel).cell (u32s_get (show k < ys.length by have := HNX.out; have := HLY.out; omega))
        have hyk : gd ys k = 4294967295 := by
          rcases (by have := HNX.out; omega : k = 0 ∨ k = 1) with e | e
          · rw [e]; exact HYD.out.1
          · rw [e]; exact HYD.out.2
        rw [hyk] at hcb
        have hax := and_mask (gd xs k) (gd_lt32 KX.out k)
        have c1 := (hbel.cell (p := ⟨gx, ox + 1, none⟩) LX.out).trans HC1.out
        have d1 := (hbel.cell (p := ⟨gy, oy + 1, none⟩) LY.out).trans HD1.out
        have hf := hrow.frozen k
        have hlt2 := hrow.lt
        have i1 : (k : Int) < (m2 : Int) := by omega
        have i2 : (k : Int) < (lx : Int) := by have := HNX.out; have := HLY.out; omega
        have i3 : (k : Int) < (m2 : Int) := by have := HNX.out; have := HLY.out; omega
        have uk : Hid (wrap64 ((k : Int) + 1) = ((k + 1 : Nat) : Int)) := w64k (by have := HNX.out; omega)
        have hcr := hrow.cell hlt
        have HST : Hid (∀ v : Value, v = dgt (gd xs k) → (wr.setCell ⟨w.heap.size, k, none⟩ v).rowIs w.heap.size tU m2 (fun i => dgt (if i < k + 1 then gd xs i else 0))) := fun v hv => (HR.out.set k v).congr fun i _ => by
          subst hv
          by_cases e : i = k
          · subst e; simp
          · by_cases e2 : i < k
            · rw [if_neg e, if_pos e2, if_pos (by omega)]
            · rw [if_neg e, if_neg e2, if_neg (by omega)]
        clear hrow hyk
        generalize gd xs k = a at *
        go_wp2_with fail
        refine wp_region_plan [(0, 0), (1, 0), (2, 0), (3, 0), (4, 0), (5, 1), (6, 0), (7, 0), (8, 1), (9, 0), (10, 0), (11, 0), (12, 1), (13, 0), (14, 0), (15, 1), (16, 0), (17, 0), (18, 3)] (fun w' => w'.cell? ⟨gx, ox + 1, none⟩ = some (.slice (some ad) lx cx) ∧ w'.cell? ⟨gy, oy + 1, none⟩ = some (.slice (some ae) m2 cy) ∧ w'.cell? (ad.add k) = some (dgt a) ∧ w'.cell? (ae.add k) = some (dgt 4294967295)) (by kernel_rfl) (by kernel_rfl) (fun _ d _ _ _ h => by cases d <;> exact h) ⟨c1, d1, hca, hcb⟩ ?_
        --LOOK2
        iterate 18 ((first | (refine plan0 (v := ?_) rfl rfl (by rfl) ?_ ?_) | (refine plan1 (v := ?_) rfl rfl (by rfl) ?_ ?_)); rotate_left; (first | (intro w'; go_simp; with_reducible rfl) | (intro w' hS; obtain ⟨h1, h2, h3, h4⟩ := hS; go_simp; with_reducible rfl)); simp only [List.setIfInBounds_toArray, List.set_cons_zero, List.set_cons_succ])
        refine plan3 rfl rfl fun K' hK' => ?_
        go_simp
        refine hK' _ _ ?_
        clear hK' K' hca hcb c1 d1
        refine planEnd ?_
        go_wp2_with fail
        go_roundw
        case rel => exact ⟨k + 1, by omega, by rw [uk.out], HST.out _ rfl, below_drewN (HB.out.setCell (Nat.le_refl _) _) 1⟩
        case measure => rw [uk.out]; simp [intOf]; omega
      · obtain rfl : k = m2 := by omega
        have hz1 := HZB.out.below HB.out HZB.out.lt
        have z0 := hz1.cell 0 rfl
        have z1 := hz1.cell 1 rfl
        have f0 := hz1.frozen 0
        have f1 := hz1.frozen 1
        have HW := Lib.hid hz1
        have hd : Digs wr (some ⟨w.heap.size, 0, none⟩) (fl (gd xs) k) := digs_of_row hrow (fun i hi => by rw [if_pos hi])
        have HV2 : Hid (((x % 18446744073709551616 : Nat) : Int) = if false then -(dv (fl (gd xs) k) : Int) else (dv (fl (gd xs) k) : Int)) := by unfold Hid; rw [dv_fl, hn.out.2.2]; rfl
        have HOK : Hid (dok (fl (gd xs) k)) := dok_fl (fun i hi => KX.out i (by have := hn.out; omega))
        have HLE : Hid ((fl (gd xs) k).length = k) := fl_len (gd xs) k
        have H2 := Lib.hid hd
        have HLM : Hid (k ≤ capMax) := by have := HNX.out; unfold Hid; show k ≤ 17592186044416; omega
        clear hz1 hd hrow hbel hk hlt
        generalize fl (gd xs) k = ds at *
        go_wp2_with fail
        have HB2 : Hid (Blk ((wr.setCell ⟨g, 0, none⟩ (.bool false)).setCell ⟨g, 1, none⟩ (.slice (some ⟨w.heap.size, 0, none⟩) k k)) g tI #[.bool false, .slice (some ⟨w.heap.size, 0, none⟩) ds.length k]) := by rw [HLE.out]; exact (HW.out.set_ 0 _).set_ 1 _
        have HD2 : Hid (Digs ((wr.setCell ⟨g, 0, none⟩ (.bool false)).setCell ⟨g, 1, none⟩ (.slice (some ⟨w.heap.size, 0, none⟩) k k)) (some ⟨w.heap.size, 0, none⟩) ds) := (H2.out.far HW.out tI_ne 0 _).far (HW.out.set_ 0 _) tI_ne 1 _
        have HG : Hid (w.grownBy ((wr.setCell ⟨g, 0, none⟩ (.bool false)).setCell ⟨g, 1, none⟩ (.slice (some ⟨w.heap.size, 0, none⟩) k k)) (some g)) := (grown_of_below HB.out (some g)).trans ((setCell_grown wr g 0 (.bool false)).trans (setCell_grown _ g 1 (.slice (some ⟨w.heap.size, 0, none⟩) k k)))
        have HL1 : Hid (ds.length ≤ k) := by unfold Hid; rw [HLE.out]; exact Nat.le_refl _
        have HL2 : Hid (ds.length ≤ capMax) := by unfold Hid; rw [HLE.out]; exact HLM.out
        refine (trim_any g false (some ⟨w.heap.size, 0, none⟩) k ds _ HB2.out HD2.out HL1.out HL2.out).mono ?_
        rintro e w3 ⟨rfl, ht⟩
        have HT := Lib.hid ht
        clear ht
        go_wp2_with fail
        go_ret
        exact ⟨rfl, put_of_trim HG.out HB2.out HD2.out HOK.out HL1.out HL2.out HT.out HV2.out⟩
  · rw [hlt] at c1 HC1 HLY
    have HNX := Lib.hid (And.intro hn.out.1 hn.out.2.1)
    have hmk := run_make_row' (P := Try.prog) 60 tU (.int .u32 0) 4 Try.underlying60 (by kernel_rfl) rfl .i64 .i64 m2 (by have := hn.out; omega) (by have := hn.out; omega)
    go_enter Try.func163, Try.ntmps163
    go_wp2_with fail
    go_quiet (fail)
    go_wp2_with fail
    clear hmk hlt c1 d1
    have HB0 : Hid (Below w.heap.size w (w.drewN nq)) := below_drewN (Below.refl _ _) _
    have e0 : (w.drewN nq).heap.size = w.heap.size := rfl
    go_loopw [25] (fun s25 wr => ∃ k : Nat, k ≤ m2 ∧ s25 = .int .i64 k ∧ wr.rowIs w.heap.size tU m2 (fun i => dgt (if i < k then gd xs i else 0)) ∧ Below w.heap.size w wr) (fun s25 _ => m2 - (intOf s25).toNat)
    case atStart => exact ⟨0, Nat.zero_le _, rfl, (World.rowIs_made (w.drewN nq) (.int .u32 0) m2 tU).congr (fun _ _ => by rw [if_neg (Nat.not_lt_zero _)]; rfl), HB0.out.alloc (Nat.le_refl _) _⟩
    case round =>
      obtain ⟨k, hk, rfl, hrow, hbel⟩ := hrel
      have HR := Lib.hid hrow
      have HB := Lib.hid hbel
      by_cases hlt : k < m2
      · obtain ⟨ad, rfl, hca⟩ := (HDX.out.below hbel).cell (u32s_get (show k < xs.length by have := HNX.out; omega))
        obtain ⟨ae, rfl, hcb⟩ := (HDY.out.below hbel).cell (u32s_get (show k < ys.length by have := HNX.out; have := HLY.out; omega))
        have hyk : gd ys k = 4294967295 := by
          rcases (by have := HNX.out; omega : k = 0 ∨ k = 1) with e | e
          · rw [e]; exact HYD.out.1
          · rw [e]; exact HYD.out.2
        rw [hyk] at hcb
        have hax := and_mask (gd xs k) (gd_lt32 KX.out k)
        have c1 := (hbel.cell (p := ⟨gx, ox + 1, none⟩) LX.out).trans HC1.out
        have d1 := (hbel.cell (p := ⟨gy, oy + 1, none⟩) LY.out).trans HD1.out
        have hf := hrow.frozen k
        have hlt2 := hrow.lt
        have i1 : (k : Int) < (m2 : Int) := by omega
        have i2 : (k : Int) < (m2 : Int) := by have := HNX.out; have := HLY.out; omega
        have i3 : (k : Int) < (m2 : Int) := by have := HNX.out; have := HLY.out; omega
        have uk : Hid (wrap64 ((k : Int) + 1) = ((k + 1 : Nat) : Int)) := w64k (by have := HNX.out; omega)
        have hcr := hrow.cell hlt
        have HST : Hid (∀ v : Value, v = dgt (gd xs k) → (wr.setCell ⟨w.heap.size, k, none⟩ v).rowIs w.heap.size tU m2 (fun i => dgt (if i < k + 1 then gd xs i else 0))) := fun v hv => (HR.out.set k v).congr fun i _ => by
          subst hv
          by_cases e : i = k
          · subst e; simp
          · by_cases e2 : i < k
            · rw [if_neg e, if_pos e2, if_pos (by omega)]
            · rw [if_neg e, if_neg e2, if_neg (by omega)]
        clear hrow hyk
        generalize gd xs k = a at *
        go_wp2_with fail
        refine wp_region_plan [(0, 0), (1, 0), (2, 0), (3, 0), (4, 0), (5, 1), (6, 0), (7, 0), (8, 1), (9, 0), (10, 0), (11, 0), (12, 1), (13, 0), (14, 0), (15, 1), (16, 0), (17, 0), (18, 3)] (fun w' => w'.cell? ⟨gx, ox + 1, none⟩ = some (.slice (some ad) m2 cx) ∧ w'.cell? ⟨gy, oy + 1, none⟩ = some (.slice (some ae) m2 cy) ∧ w'.cell? (ad.add k) = some (dgt a) ∧ w'.cell? (ae.add k) = some (dgt 4294967295)) (by kernel_rfl) (by kernel_rfl) (fun _ d _ _ _ h => by cases d <;> exact h) ⟨c1, d1, hca, hcb⟩ ?_
        --LOOK2
        iterate 18 ((first | (refine plan0 (v := ?_) rfl rfl (by rfl) ?_ ?_) | (refine plan1 (v := ?_) rfl rfl (by rfl) ?_ ?_)); rotate_left; (first | (intro w'; go_simp; with_reducible rfl) | (intro w' hS; obtain ⟨h1, h2, h3, h4⟩ := hS; go_simp; with_reducible rfl)); simp only [List.setIfInBounds_toArray, List.set_cons_zero, List.set_cons_succ])
        refine plan3 rfl rfl fun K' hK' => ?_
        go_simp
        refine hK' _ _ ?_
        clear hK' K' hca hcb c1 d1
        refine planEnd ?_
        go_wp2_with fail
        go_roundw
        case rel => exact ⟨k + 1, by omega, by rw [uk.out], HST.out _ rfl, below_drewN (HB.out.setCell (Nat.le_refl _) _) 1⟩
        case measure => rw [uk.out]; simp [intOf]; omega
      · obtain rfl : k = m2 := by omega
        have hz1 := HZB.out.below HB.out HZB.out.lt
        have z0 := hz1.cell 0 rfl
        have z1 := hz1.cell 1 rfl
        have f0 := hz1.frozen 0
        have f1 := hz1.frozen 1
        have HW := Lib.hid hz1
        have hd : Digs wr (some ⟨w.heap.size, 0, none⟩) (fl (gd xs) k) := digs_of_row hrow (fun i hi => by rw [if_pos hi])
        have HV2 : Hid (((x % 18446744073709551616 : Nat) : Int) = if false then -(dv (fl (gd xs) k) : Int) else (dv (fl (gd xs) k) : Int)) := by unfold Hid; rw [dv_fl, hn.out.2.2]; rfl
        have HOK : Hid (dok (fl (gd xs) k)) := dok_fl (fun i hi => KX.out i (by have := hn.out; omega))
        have HLE : Hid ((fl (gd xs) k).length = k) := fl_len (gd xs) k
        have H2 := Lib.hid hd
        have HLM : Hid (k ≤ capMax) := by have := HNX.out; unfold Hid; show k ≤ 17592186044416; omega
        clear hz1 hd hrow hbel hk hlt
        generalize fl (gd xs) k = ds at *
        go_wp2_with fail
        have HB2 : Hid (Blk ((wr.setCell ⟨g, 0, none⟩ (.bool false)).setCell ⟨g, 1, none⟩ (.slice (some ⟨w.heap.size, 0, none⟩) k k)) g tI #[.bool false, .slice (some ⟨w.heap.size, 0, none⟩) ds.length k]) := by rw [HLE.out]; exact (HW.out.set_ 0 _).set_ 1 _
        have HD2 : Hid (Digs ((wr.setCell ⟨g, 0, none⟩ (.bool false)).setCell ⟨g, 1, none⟩ (.slice (some ⟨w.heap.size, 0, none⟩) k k)) (some ⟨w.heap.size, 0, none⟩) ds) := (H2.out.far HW.out tI_ne 0 _).far (HW.out.set_ 0 _) tI_ne 1 _
        have HG : Hid (w.grownBy ((wr.setCell ⟨g, 0, none⟩ (.bool false)).setCell ⟨g, 1, none⟩ (.slice (some ⟨w.heap.size, 0, none⟩) k k)) (some g)) := (grown_of_below HB.out (some g)).trans ((setCell_grown wr g 0 (.bool false)).trans (setCell_grown _ g 1 (.slice (some ⟨w.heap.size, 0, none⟩) k k)))
        have HL1 : Hid (ds.length ≤ k) := by unfold Hid; rw [HLE.out]; exact Nat.le_refl _
        have HL2 : Hid (ds.length ≤ capMax) := by unfold Hid; rw [HLE.out]; exact HLM.out
        refine (trim_any g false (some ⟨w.heap.size, 0, none⟩) k ds _ HB2.out HD2.out HL1.out HL2.out).mono ?_
        rintro e w3 ⟨rfl, ht⟩
        have HT := Lib.hid ht
        clear ht
        go_wp2_with fail
        go_ret
        exact ⟨rfl, put_of_trim HG.out HB2.out HD2.out HOK.out HL1.out HL2.out HT.out HV2.out⟩
end Go.Proofs.Ytaehehoeidnidaa
