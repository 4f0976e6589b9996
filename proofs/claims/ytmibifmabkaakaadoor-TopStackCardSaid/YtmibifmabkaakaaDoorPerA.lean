/- The order of a rank, walked. No condition. -/
import Derived.Test.YtmibifmabkaakaaDoorPerR
import Derived.Test.YtmibifmabkaakaaDoorApp
import Derived.Test.YtmibifmabkaakaaDoorHeld
import Derived.BigQuiet
import Derived.IntWalk
namespace Go.Proofs.YtmibifmabkaakaaDoor
open Go.ChangeShapes Go.WideShapes Go.ChangeAt Go.RowKit
set_option linter.unusedVariables false

set_option maxRecDepth 20000 in
set_option maxHeartbeats 2000000 in
theorem at_bad (n r : Int) (w : World) (h : ¬ (0 ≤ n ∧ n ≤ 20 ∧ 0 ≤ r)) :
    Calls Tryd.prog 12 #[.int .i64 n, .int .i64 r] w fun e w' => SOut w w' e (atL n r) (atE n r) := by
  have HL : Hid (atL n r = [] ∧ atE n r = 2) := by
    unfold atL atE Hid
    rw [if_neg (fun h2 => h ⟨h2.1, h2.2.1, h2.2.2.1⟩), if_neg h]
    exact ⟨rfl, rfl⟩
  rcases (by omega : n < 0 ∨ (¬ n < 0 ∧ 20 < n) ∨ (¬ n < 0 ∧ ¬ 20 < n ∧ r < 0)) with h1 | ⟨h1, h2⟩ | ⟨h1, h2, h3⟩
  all_goals
    clear h
    go_enter Tryd.func12, Tryd.ntmps12
    go_wp2_with fail
    go_ret2
    rw [HL.out.1, HL.out.2]
    exact SOut.nil_ (Below.refl _ _)
set_option maxRecDepth 20000 in
set_option maxHeartbeats 2000000 in
theorem at_ok (n r : Nat) (w : World) (hn : n ≤ 20) (hr : (r : Int) ≤ 9223372036854775807) :
    Calls Tryd.prog 12 #[.int .i64 n, .int .i64 r] w fun e w' => SOut w w' e (atL n r) (atE n r) := by
  have i1 : ¬ (n : Int) < 0 := by omega
  have i2 : ¬ 20 < (n : Int) := by omega
  have i3 : ¬ (r : Int) < 0 := by omega
  have hmk := run_make_row' (P := Tryd.prog) 23 3 (.int .i64 0) 8 Tryd.underlying23 (by kernel_rfl) rfl .i64 .i64 n (by omega) (by omega)
  go_enter Tryd.func12, Tryd.ntmps12
  go_wp2_with fail
  clear hmk
  go_loopw [1, 7] (fun s1 s7 wr => ∃ (m : Nat) (z : Int), m ≤ n ∧ s7 = .int .i64 z ∧ Hid (z + 1 = m) ∧ s1 = .int .i64 (r / fct (n - m) : Nat) ∧ wr.rowIs w.heap.size 3 n (fun x => .int .i64 (if m ≤ x then (dg n r x : Int) else 0)) ∧ Below w.heap.size w wr) (fun _ s7 _ => (intOf s7 + 1).toNat)
  case atStart => exact ⟨n, _, Nat.le_refl _, rfl, by unfold Hid; omega, by rw [Nat.sub_self, fct, Nat.div_one], (World.rowIs_made w (.int .i64 0) n 3).congr (fun i hi => by rw [if_neg (by omega)]), (Below.refl _ _).alloc (Nat.le_refl _) _⟩
  case round =>
    obtain ⟨m, z, hm, rfl, hz, rfl, hrow, hbel⟩ := hrel
    have HR := Lib.hid hrow
    have HB := Lib.hid hbel
    clear hrow hbel
    by_cases hm0 : 0 < m
    · obtain ⟨K, rfl⟩ : ∃ K, m = K + 1 := ⟨m - 1, by omega⟩
      obtain rfl : z = (K : Int) := by have := hz.out; omega
      have hK : K < n := by omega
      have i4 : (K : Int) < (n : Int) := by omega
      obtain ⟨q, hq⟩ : ∃ q, n - K = q := ⟨_, rfl⟩
      have i5 : (n : Int) - (K : Int) = (q : Int) := by omega
      have i6 : 0 < (q : Int) := by omega
      have HDV : Hid (r / fct (n - (K + 1)) / q = r / fct (n - K)) := by unfold Hid; rw [← hq]; exact div_step hK
      have HDG : Hid (r / fct (n - (K + 1)) % q = dg n r K) := by unfold Hid; rw [← hq]; rfl
      have hrl : r / fct (n - (K + 1)) ≤ r := Nat.div_le_self _ _
      have hyb := Nat.div_le_self (r / fct (n - (K + 1))) q
      generalize r / fct (n - (K + 1)) = rr at *
      have i7 : (rr : Int) ≤ 9223372036854775807 := by omega
      have hmd : (rr : Int) % (q : Int) = ((rr % q : Nat) : Int) := (Int.natCast_emod _ _).symm
      have hdv : (rr : Int) / (q : Int) = ((rr / q : Nat) : Int) := (Int.natCast_ediv _ _).symm
      generalize hX : rr % q = X at *
      generalize hY : rr / q = Y at *
      have i8 : (Y : Int) ≤ 9223372036854775807 := by omega
      have HX := Lib.hid hX
      have HY := Lib.hid hY
      have HQ := Lib.hid hq
      have hc := HR.out.cell hK
      have hf := HR.out.frozen K
      rw [if_neg (by omega)] at hc
      clear hX hY hq
      go_wp2_with fail
      go_roundw
      case rel =>
        refine ⟨K, (K : Int) - 1, by omega, rfl, by unfold Hid; omega, by rw [← HDV.out], (HR.out.set K _).congr (fun i hi => ?_), HB.out.setCell (Nat.le_refl _) _⟩
        by_cases e : i = K
        · subst e; rw [if_pos rfl, if_pos (Nat.le_refl _), HDG.out]
        · rw [if_neg e]
          by_cases e2 : K + 1 ≤ i
          · rw [if_pos e2, if_pos (by omega)]
          · rw [if_neg e2, if_neg (by omega)]
      case measure => simp [intOf]
    · have hz1 : ¬ 0 ≤ z := by have := hz.out; omega
      have HM : Hid (m = 0) := by unfold Hid; omega
      rw [HM.out, Nat.sub_zero]
      by_cases hlt : r < fct n
      · have hz0 : r / fct n = 0 := Nat.div_eq_of_lt hlt
        rw [hz0]
        have HL : Hid (atL n r = ot n r n ∧ atE n r = 0) := by
          unfold atL atE Hid
          rw [if_pos ⟨by omega, by omega, by omega, by rw [Int.toNat_natCast]; omega⟩, if_pos ⟨by omega, by omega, by omega⟩, if_pos (by rw [Int.toNat_natCast]; omega)]
          exact ⟨rfl, rfl⟩
        have HC0 : Hid (wr.rowIs w.heap.size 3 n (fun x => .int .i64 (dg n r x : Nat))) := HR.out.congr fun i hi => by rw [if_pos (by have := HM.out; omega)]
        have HWZ := Lib.hid HR.out.lt
        have hmk := run_make_row' (P := Tryd.prog) 23 3 (.int .i64 0) 8 Tryd.underlying23 (by kernel_rfl) rfl .i64 .i64 n (by omega) (by omega)
        clear hz0 HR hlt
        obtain ⟨wo, rfl⟩ : ∃ wo : World, wo = wr := ⟨_, rfl⟩
        go_wp2_with fail
        clear hmk
        go_loopw [50] (fun s50 wr => ∃ j : Nat, j ≤ n ∧ s50 = .int .i64 j ∧ wr.rowIs wo.heap.size 3 n (fun x => .int .i64 (if x < j then (x : Int) else 0)) ∧ Below wo.heap.size wo wr) (fun s50 _ => n - (intOf s50).toNat)
        case atStart => exact ⟨0, Nat.zero_le _, rfl, (World.rowIs_made wo (.int .i64 0) n 3).congr (fun i hi => by rw [if_neg (by omega)]), (Below.refl _ _).alloc (Nat.le_refl _) _⟩
        case round =>
          obtain ⟨j, hj, rfl, hrow, hbel⟩ := hrel
          have HR2 := Lib.hid hrow
          have HB2 := Lib.hid hbel
          clear hrow hbel
          by_cases hlt : j < n
          · have i4 : (j : Int) < (n : Int) := by omega
            have hc := HR2.out.cell hlt
            have hf := HR2.out.frozen j
            rw [if_neg (Nat.lt_irrefl j)] at hc
            go_wp2_with fail
            go_roundw
            case rel =>
              refine ⟨j + 1, by omega, by go_num, (HR2.out.set j _).congr (fun i hi => ?_), HB2.out.setCell (Nat.le_refl _) _⟩
              by_cases e : i = j
              · subst e; rw [if_pos rfl, if_pos (Nat.lt_succ_self _)]
              · rw [if_neg e]
                by_cases e2 : i < j
                · rw [if_pos e2, if_pos (by omega)]
                · rw [if_neg e2, if_neg (by omega)]
            case measure => simp [intOf]; omega
          · have i4 : ¬ (j : Int) < (n : Int) := by omega
            have hlf : Seg wr wr.heap.size (some ⟨wo.heap.size, 0, none⟩) ((lf n r 0).map (.int .i64)) := by
              refine rowIs_tab (f := fun x => (x : Int)) (HR2.out.congr fun i hi => by rw [if_pos (by omega)])
            have HLF := Lib.hid hlf
            have HCS := Lib.hid (rowIs_below HC0.out HB2.out HWZ.out)
            have HWP : Hid (w.heap.size < wr.heap.size) := Nat.lt_of_lt_of_le HWZ.out HB2.out.size
            have HBW : Hid (Below w.heap.size w wr) := HB.out.trans (HB2.out.mono HB.out.size)
            clear hlf
            obtain ⟨wp, rfl⟩ : ∃ wp : World, wp = wr := ⟨_, rfl⟩
            go_wp2_with fail
            go_loopw [8, 10, 60] (fun s8 s10 s60 wr => ∃ (i m' c' : Nat) (A' : Option Addr), i ≤ n ∧ s60 = .int .i64 i ∧ m' + i = n ∧ s8 = .slice A' m' c' ∧ m' ≤ c' ∧ Seg wr wr.heap.size A' ((lf n r i).map (.int .i64)) ∧ Own wr wp.heap.size 3 s10 ((ot n r i).map (.int .i64)) ∧ (0 < m' → Apart A' s10) ∧ Below wp.heap.size wp wr) (fun _ _ s60 _ => n - (intOf s60).toNat)
            case atStart => exact ⟨0, n, n, _, Nat.zero_le _, rfl, by omega, rfl, Nat.le_refl _, HLF.out, Own.none_, fun _ ad g _ h => by simp [Value.ownBlock] at h, Below.refl _ _⟩
            case round =>
              obtain ⟨i, m', c', A', hi, rfl, hmi, rfl, hmc, hsg, hown, hap, hbel⟩ := hrel
              have HS := Lib.hid hsg
              have HOW := Lib.hid hown
              have HAP := Lib.hid hap
              have HB3 := Lib.hid hbel
              have HSZ := Lib.hid hbel.size
              clear hsg hown hap hbel
              by_cases hlt : i < n
              · have i5 : (i : Int) < (n : Int) := by omega
                have hdl := dg_lt (r := r) hlt
                have hll := lf_len n r i hi
                have hol := ot_len n r i
                have hcc := (rowIs_below HCS.out HB3.out HWP.out).cell hlt
                have hx : dg n r i < (lf n r i).length := by omega
                obtain ⟨ad, rfl, _, hcell⟩ := HS.out.pat hx
                have HOT : Hid (ot n r (i + 1) = ot n r i ++ [pat (lf n r i) (dg n r i)]) := rfl
                have HLF2 : Hid (lf n r (i + 1) = (lf n r i).take (dg n r i) ++ (lf n r i).drop (dg n r i + 1)) := List.eraseIdx_eq_take_drop_succ ..
                generalize dg n r i = x at *
                generalize lf n r i = l at *
                generalize ot n r i = o at *
                have hxm : x < m' := by omega
                have hslf := slice_full (A := some ad) (n := m') (x := x) (c := c') (by omega)
                obtain ⟨A1, hsl, hsg1⟩ := slice_from2 (some ad) (ys := l) (l := x + 1) (c := c') ((x : Int) + 1) (by omega) (by omega) (by omega)
                have HSG1 := Lib.hid hsg1
                have hll2 : l.length = m' := by omega
                have HLP : Hid (0 < (l.map (Value.int .i64)).length) := by unfold Hid; rw [List.length_map]; omega
                have hyl : (l.drop (x + 1)).length + (x + 1) = m' := by rw [List.length_drop]; omega
                have hxl : (l.take x).length = x := by rw [List.length_take]; omega
                rw [hll2] at hsl
                have HXL := Lib.hid hxl
                have HXS : Hid (Seg wr wr.heap.size (some ad) ((l.take x).map (.int .i64))) := by
                  unfold Hid; rw [List.map_take]; exact HS.out.pre x
                have i6 : (x : Int) < (m' : Int) := by omega
                have i7 : (x : Int) ≤ (c' : Int) := by omega
                have i8 : (x : Int) + 1 ≤ (m' : Int) := by omega
                clear hsg1 hll hll2 hxl hx hdl
                generalize pat l x = y at *
                generalize l.take x = xs at *
                generalize l.drop (x + 1) = ys at *
                have hog : o.length ≤ 20 := by omega
                clear hol
                go_wp2_with (first
                  | (at_builtin; go_must (refine wpList_push2 _ rfl _ _ elem_ints rfl wp.heap.size _ _ rfl (Own.alloc' HOW.out _) (.int .i64 y) ⟨wr.heap.size, 0, none⟩ 1 rfl (cell_new1 _ _ _) rfl (by rw [List.length_map]; omega) (by rw [List.length_map]; unfold maxLen; omega) (by simp; exact Nat.le_succ_of_le HSZ.out) ?_); intro v3 w3 hown3 hgr3 hnew3; have HO3 := Lib.hid hown3; have HG3 := Lib.hid hgr3; have HN3 := Lib.hid hnew3; clear hown3 hgr3 hnew3)
                  | fail)
                have HSZ2 : Hid (wr.heap.size ≤ w3.heap.size) := Nat.le_trans (by simp) HG3.out.size
                have HX3 : Hid (Seg w3 wr.heap.size (some ad) (xs.map (.int .i64))) := (HXS.out.alloc (Nat.le_refl _) _).far HG3.out (HAP.out (by omega)) (by simp)
                have HY3 : Hid (Seg w3 wr.heap.size (some ad) (l.map (.int .i64))) := (HS.out.alloc (Nat.le_refl _) _).far HG3.out (HAP.out (by omega)) (by simp)
                have HY4 := Lib.hid (HSG1.out w3 _ HY3.out)
                have HAV3 : Hid (Apart (some ad) v3) := (HS.out.alloc (Nat.le_refl _) _).apart_new HLP.out (HAP.out (by omega)) HN3.out (by simp)
                have hbn : x + ys.length ≤ maxLen := by unfold maxLen; omega
                have hbb : (x + ys.length) * 8 ≤ 140737488355328 := by omega
                have hwr : IntKind.i64.wrap ((x : Int) + 1) = (x : Int) + 1 := IntWalk.i64_in _ (by omega)
                refine wp_region_plan [(0, 0), (1, 0), (2, 0), (3, 0), (4, 0), (5, 0), (6, 0), (7, 0), (8, 2), (9, 0)] (fun _ => True) (by kernel_rfl) (by kernel_rfl) (fun _ d _ _ _ h => by cases d <;> exact h) trivial ?_
                iterate 8 ((refine plan0 (v := ?_) rfl rfl (by rfl) ?_ ?_); rotate_left; (intro w'; go_simp; with_reducible rfl); simp only [List.setIfInBounds_toArray, List.set_cons_zero, List.set_cons_succ])
                refine plan2 rfl rfl fun K' hK' => ?_
                refine wp_append_full _ _ _ elem_ints rfl (B := wr.heap.size) (B' := wr.heap.size) (A := some ad) (C := A1) (xs := xs.map (.int .i64)) (ys := ys.map (.int .i64)) rfl (by rw [List.length_map]; exact HXL.out) HX3.out.drew HSZ2.out (c' - (x + 1)) rfl (by rw [List.length_map]) HY4.out.drew (ints_one ys) hbn hbb ?_
                intro A2 c2 w4 hc2 hsg2 hb2 hA2
                refine hK' _ _ trivial ?_
                have HC2 := Lib.hid hc2
                have HS2 := Lib.hid hsg2
                have HB4 := Lib.hid hb2
                have HA2 := Lib.hid hA2
                clear hK' K' hc2 hsg2 hb2 hA2 hwr hsl hslf
                iterate 1 ((refine plan0 (v := ?_) rfl rfl (by rfl) ?_ ?_); rotate_left; (intro w'; go_simp; with_reducible rfl))
                refine planEnd ?_
                go_wp2_with fail
                go_roundw
                case rel =>
                  refine ⟨i + 1, x + ys.length, c2, A2, by omega, by go_num, by omega, rfl, HC2.out, ?_, ?_, fun _ => ?_, ?_⟩
                  · rw [HLF2.out, List.map_append]; exact HS2.out
                  · have h := Own.below (w := w3.drew) HO3.out HB4.out (Nat.le_refl _)
                    rw [HOT.out, List.map_append]; exact h
                  · rcases HA2.out with e | e
                    · rw [e]; exact HAV3.out
                    · intro ad' g e2 hg
                      have h1 := HO3.out.lt g hg
                      rw [e] at e2
                      injection e2 with e2
                      subst e2
                      exact Nat.ne_of_gt h1
                  · exact (Below.drew ((HB3.out.alloc HSZ.out _).grown HG3.out (by simp; exact Nat.le_succ_of_le HSZ.out) HOW.out.block)).trans (HB4.out.mono (Nat.le_trans HSZ.out HSZ2.out))
                case measure => simp [intOf]; omega
              · have i5 : ¬ (i : Int) < (n : Int) := by omega
                have HI : Hid (i = n) := by unfold Hid; omega
                obtain ⟨A9, c9, rfl, hc9, hsg⟩ := HOW.out.res
                have HW9 := Lib.hid hsg
                have HC9 := Lib.hid hc9
                clear hsg hc9
                go_wp2_with fail
                go_ret2
                rw [HL.out.1, HL.out.2]
                have h1 := HW9.out
                have h2 := HC9.out
                rw [HI.out] at h1 h2
                rw [List.length_map, ot_len] at h2
                exact ⟨A9, c9, by rw [HI.out]; rfl, by rw [ot_len]; exact h2, h1, HBW.out.trans (HB3.out.mono HBW.out.size)⟩
      · have hne : 0 < r / fct n := Nat.div_pos (by omega) (fct_pos n)
        have HL : Hid (atL n r = [] ∧ atE n r = 3) := by
          unfold atL atE Hid
          rw [if_neg (by rintro ⟨_, _, _, h⟩; rw [Int.toNat_natCast] at h; omega), if_pos ⟨by omega, by omega, by omega⟩, if_neg (by rw [Int.toNat_natCast]; omega)]
          exact ⟨rfl, rfl⟩
        have i4 : 0 < ((r / fct n : Nat) : Int) := by omega
        generalize r / fct n = rr at *
        go_wp2_with fail
        go_ret2
        rw [HL.out.1, HL.out.2]
        exact SOut.nil_ HB.out
end Go.Proofs.YtmibifmabkaakaaDoor
