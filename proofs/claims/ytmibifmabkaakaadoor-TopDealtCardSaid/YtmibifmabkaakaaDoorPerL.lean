/- Orders: dealt by digits, walked. No condition. -/
import Derived.Test.YtmibifmabkaakaaDoorPerM
import Derived.Test.YtmibifmabkaakaaDoorHeld
import Derived.BigQuiet
import Derived.IntWalk
namespace Go.Proofs.YtmibifmabkaakaaDoor
open Go.ChangeShapes Go.WideShapes Go.ChangeAt Go.RowKit
set_option linter.unusedVariables false

theorem deal_bad {d : List Int} (h : 20 < d.length ∨ dgood d d.length = false) : dealL d = [] ∧ dealE d = 2 := by
  unfold dealL dealE
  have : ¬ (d.length ≤ 20 ∧ dgood d d.length = true) := by rintro ⟨h1, h2⟩; rcases h with h | h; omega; rw [h] at h2; cases h2
  rw [if_neg this, if_neg this]
  exact ⟨rfl, rfl⟩
theorem dgood_no {d : List Int} {j : Nat} (hj : j < d.length) (h : dgood d (j + 1) = false) : dgood d d.length = false := by
  rw [Bool.eq_false_iff] at h ⊢
  exact fun h2 => h (dgood_le (by omega) h2)
set_option maxRecDepth 20000 in
set_option maxHeartbeats 4000000 in
theorem deal_any (d : List Int) (A : Option Addr) (c : Nat) (w : World) (hs : Seg w w.heap.size A (d.map (.int .i64))) (hm : d.length ≤ 9223372036854775807) :
    Calls Tryd.prog 30 #[.slice A d.length c] w fun e w' => SOut w w' e (dealL d) (dealE d) := by
  have HS := Lib.hid hs
  clear hs
  by_cases hl : 20 < d.length
  · have HP := Lib.hid (deal_bad (d := d) (.inl hl))
    have i1 : (20 : Int) < (d.length : Int) := by omega
    go_enter Tryd.func30, Tryd.ntmps30
    go_wp2_with fail
    go_ret2
    rw [HP.out.1, HP.out.2]
    exact SOut.nil_ (Below.refl _ _)
  · have i1 : ¬ (20 : Int) < (d.length : Int) := by omega
    have hmk := run_make_row' (P := Tryd.prog) 23 3 (.int .i64 0) 8 Tryd.underlying23 (by kernel_rfl) rfl .i64 .i64 d.length (by omega) (by omega)
    go_enter Tryd.func30, Tryd.ntmps30
    go_wp2_with fail
    clear hmk
    go_loopw [16] (fun s16 wr => ∃ j : Nat, j ≤ d.length ∧ s16 = .int .i64 j ∧ Hid (dgood d j = true) ∧ wr.rowIs w.heap.size 3 d.length (fun x => .int .i64 (if x < j then (x : Int) else 0)) ∧ Below w.heap.size w wr) (fun s16 _ => d.length - (intOf s16).toNat)
    case atStart => exact ⟨0, Nat.zero_le _, rfl, rfl, (World.rowIs_made w (.int .i64 0) d.length 3).congr (fun i hi => by simp), (Below.refl _ _).alloc (Nat.le_refl _) _⟩
    case round =>
      obtain ⟨j, hj, rfl, hok, hrow, hbel⟩ := hrel
      have HR := Lib.hid hrow
      have HB := Lib.hid hbel
      clear hrow hbel
      by_cases hlt : j < d.length
      · have i2 : (j : Int) < (d.length : Int) := by omega
        obtain ⟨ad, rfl, _, hcell⟩ := (HS.out.below HB.out).pat hlt
        have HST : Hid (dgood d (j + 1) = (dgood d j && (decide (0 ≤ pat d j) && decide (pat d j ≤ j)))) := rfl
        have HNO : Hid (dgood d (j + 1) = false → dealL d = [] ∧ dealE d = 2) := fun h => deal_bad (.inr (dgood_no hlt h))
        generalize pat d j = x at *
        by_cases h1 : x < 0
        · have HF := Lib.hid (HNO.out (by rw [HST.out, hok.out, decide_eq_false (show ¬ 0 ≤ x by omega)]; rfl))
          go_wp2_with fail
          go_ret2
          rw [HF.out.1, HF.out.2]
          exact SOut.nil_ HB.out
        · by_cases h2 : (j : Int) < x
          · have HF := Lib.hid (HNO.out (by rw [HST.out, hok.out, decide_eq_false (show ¬ x ≤ j by omega)]; simp))
            go_wp2_with fail
            go_ret2
            rw [HF.out.1, HF.out.2]
            exact SOut.nil_ HB.out
          · have HT : Hid (dgood d (j + 1) = true) := by unfold Hid; rw [HST.out, hok.out, decide_eq_true (show 0 ≤ x by omega), decide_eq_true (show x ≤ j by omega)]; rfl
            have hc := HR.out.cell hlt
            have hf := HR.out.frozen j
            rw [if_neg (Nat.lt_irrefl j)] at hc
            go_wp2_with fail
            go_roundw
            case rel =>
              refine ⟨j + 1, by omega, by go_num, HT, (HR.out.set j _).congr (fun i hi => ?_), HB.out.setCell (Nat.le_refl _) _⟩
              by_cases e : i = j
              · subst e; rw [if_pos rfl, if_pos (Nat.lt_succ_self _)]
              · rw [if_neg e]
                by_cases e2 : i < j
                · rw [if_pos e2, if_pos (by omega)]
                · rw [if_neg e2, if_neg (by omega)]
            case measure => simp [intOf]; omega
      · have i2 : ¬ (j : Int) < (d.length : Int) := by omega
        have HJ : Hid (j = d.length) := by unfold Hid; omega
        have HG : Hid (dgood d d.length = true) := by rw [← HJ.out]; exact hok
        have HDL : Hid (dealL d = tab (pdl d d.length) d.length ∧ dealE d = 0) := by
          unfold dealL dealE Hid
          rw [if_pos ⟨by omega, HG.out⟩, if_pos ⟨by omega, HG.out⟩]
          exact ⟨rfl, rfl⟩
        have HR0 : Hid (wr.rowIs w.heap.size 3 d.length (fun x => .int .i64 (pdl d 0 x))) := HR.out.congr fun i hi => by rw [if_pos (by have := HJ.out; omega)]; rfl
        clear HR
        obtain ⟨wo, rfl⟩ : ∃ wo : World, wo = wr := ⟨_, rfl⟩
        go_wp2_with fail
        go_loopw [7] (fun s36 wr => ∃ (m : Nat) (z : Int), m ≤ d.length ∧ s36 = .int .i64 z ∧ Hid (z + 1 = m) ∧ wr.rowIs w.heap.size 3 d.length (fun x => .int .i64 (pdl d (d.length - m) x)) ∧ Below w.heap.size w wr) (fun s36 _ => (intOf s36 + 1).toNat)
        case atStart => exact ⟨d.length, _, Nat.le_refl _, rfl, by unfold Hid; omega, by rw [Nat.sub_self]; exact HR0.out, HB.out⟩
        case round =>
          obtain ⟨m, z, hmd, rfl, hz, hrow, hbel⟩ := hrel
          have HR := Lib.hid hrow
          have HB := Lib.hid hbel
          clear hrow hbel HR0
          by_cases hm0 : 0 < m
          · obtain ⟨K, rfl⟩ : ∃ K, m = K + 1 := ⟨m - 1, by omega⟩
            obtain rfl : z = (K : Int) := by have := hz.out; omega
            have hK : K < d.length := by omega
            have hg := dgood_get HG.out K hK
            obtain ⟨ad, rfl, _, hcell⟩ := (HS.out.below HB.out).pat hK
            have hstp : pdl d (d.length - K) = updf (updf (pdl d (d.length - (K + 1))) K (pdl d (d.length - (K + 1)) (pat d K).toNat)) (pat d K).toNat (pdl d (d.length - (K + 1)) K) := by
              rw [show d.length - K = d.length - (K + 1) + 1 by omega, pdl, show d.length - 1 - (d.length - (K + 1)) = K by omega]
            obtain ⟨X, hX⟩ : ∃ X : Nat, pat d K = X := ⟨(pat d K).toNat, by omega⟩
            rw [hX] at hg hcell hstp
            rw [Int.toNat_natCast] at hstp
            have HSTP := Lib.hid hstp
            clear hX hstp
            have hXK : X ≤ K := by omega
            clear hg
            have hXd : X < d.length := by omega
            generalize pdl d (d.length - (K + 1)) = f at *
            have c1 := HR.out.cell hXd
            have c2 := HR.out.cell hK
            have HF1 := Lib.hid (HR.out.frozen X)
            have HF2 := HR.out.frozen K
            have i3 : (X : Int) < (d.length : Int) := by omega
            have i4 : (K : Int) < (d.length : Int) := by omega
            go_wp2_with fail
            refine wp_region_plan [(0, 0), (1, 0), (2, 0), (3, 0), (4, 0), (5, 0), (6, 1), (7, 0), (8, 0), (9, 0), (10, 0), (11, 1), (12, 0), (13, 1), (14, 0), (15, 0), (16, 0), (17, 1), (18, 0), (19, 3), (20, 0), (21, 3)] (fun w' => w'.cell? (ad.add K) = some (.int .i64 X) ∧ w'.cell? ⟨w.heap.size, X, none⟩ = some (.int .i64 (f X)) ∧ w'.cell? ⟨w.heap.size, K, none⟩ = some (.int .i64 (f K))) (by kernel_rfl) (by kernel_rfl) (fun _ d _ _ _ h => by cases d <;> exact h) ⟨hcell, c1, c2⟩ ?_
            iterate 19 ((first | (refine plan0 (v := ?_) rfl rfl (by rfl) ?_ ?_) | (refine plan1 (v := ?_) rfl rfl (by rfl) ?_ ?_)); rotate_left; (first | (intro w'; go_simp; with_reducible rfl) | (intro w' hS; obtain ⟨h1, h2, h3⟩ := hS; go_simp; with_reducible rfl)); simp only [List.setIfInBounds_toArray, List.set_cons_zero, List.set_cons_succ])
            refine plan3 rfl rfl fun K' hK' => ?_
            have HR1 := Lib.hid (rowIs_set_int (w := wr.drew) HR.out K (f X))
            have HB1 : Hid (Below w.heap.size w (wr.drew.setCell ⟨w.heap.size, K, none⟩ (.int .i64 (f X)))) := (Below.drew HB.out).setCell (Nat.le_refl _) _
            go_simp
            refine hK' _ _ ?_
            clear hK' K' hcell c1 c2 HF2
            simp only [World.setCell_drew] at *
            generalize hw2 : wr.setCell ⟨w.heap.size, K, none⟩ (.int .i64 (f X)) = w2 at *
            have c3 := HR1.out.cell hXd
            have c4 := HR1.out.frozen X
            have HW2 := Lib.hid hw2
            clear hw2
            iterate 1 ((refine plan0 (v := ?_) rfl rfl (by rfl) ?_ ?_); rotate_left; (intro w'; go_simp; with_reducible rfl); simp only [List.setIfInBounds_toArray, List.set_cons_zero, List.set_cons_succ])
            refine plan3 rfl rfl fun K' hK' => ?_
            go_simp
            refine hK' _ _ ?_
            clear hK' K' c3 c4
            refine planEnd ?_
            go_wp2_with fail
            go_roundw
            case rel =>
              refine ⟨K, (K : Int) - 1, by omega, rfl, by unfold Hid; omega, ?_, (HB1.out.setCell (Nat.le_refl _) _)⟩
              rw [HSTP.out]
              exact rowIs_set_int HR1.out X (f K)
            case measure => simp [intOf]
          · have hz1 : ¬ 0 ≤ z := by have := hz.out; omega
            have HM : Hid (m = 0) := by unfold Hid; omega
            go_wp2_with fail
            go_ret2
            have h := HR.out
            rw [HM.out, Nat.sub_zero] at h
            rw [HDL.out.1, HDL.out.2]
            exact SOut.row h rfl HB.out
end Go.Proofs.YtmibifmabkaakaaDoor
