/- Orders: dealt by digits, by the reference, walked. No condition. -/
import Derived.Test.YtmcbkjepjijfjaaPerL
namespace Go.Proofs.Ytmcbkjepjijfjaa
open Go.ChangeShapes Go.WideShapes Go.ChangeAt Go.RowKit
set_option linter.unusedVariables false

set_option maxRecDepth 20000 in
set_option maxHeartbeats 4000000 in
theorem ddeal_any (d : List Int) (A : Option Addr) (c : Nat) (w : World) (hs : Seg w w.heap.size A (d.map (.int .i64))) (hm : d.length ≤ 9223372036854775807) :
    Calls Try.prog 21 #[.slice A d.length c] w fun e w' => SOut w w' e (dealL d) (dealE d) := by
  have HS := Lib.hid hs
  clear hs
  obtain ⟨b, hb⟩ : ∃ b, decide (d.length ≤ 20) = b := ⟨_, rfl⟩
  have hbi : decide ((d.length : Int) ≤ 20) = b := by rw [← hb]; apply decide_eq_decide.2; omega
  go_enter Try.func21, Try.ntmps21
  go_wp2_with fail
  have HBD := Lib.hid hb
  clear hb hbi
  go_loop [4, 18] (fun s4 s18 => ∃ j : Nat, j ≤ d.length ∧ s18 = .int .i64 j ∧ s4 = .bool (b && dgood d j)) (fun _ s18 => d.length - (intOf s18).toNat)
  case atStart => exact ⟨0, Nat.zero_le _, rfl, by simp [dgood]⟩
  case round =>
    obtain ⟨j, hj, rfl, rfl⟩ := hrel
    by_cases hlt : j < d.length
    · have i2 : (j : Int) < (d.length : Int) := by omega
      obtain ⟨ad, rfl, _, hcell⟩ := HS.out.pat hlt
      have HST : Hid ((b && dgood d (j + 1)) = ((b && dgood d j) && (decide (0 ≤ pat d j) && decide (pat d j ≤ j)))) := by unfold Hid; rw [dgood, Bool.and_assoc]
      generalize (b && dgood d j) = v at *
      generalize pat d j = x at *
      cases v with
      | false =>
        go_wp2_with fail
        go_round
        case rel => exact ⟨j + 1, by omega, by go_num, by rw [HST.out]; rfl⟩
        case measure => simp [intOf]; omega
      | true =>
        by_cases h1 : 0 ≤ x
        · obtain ⟨v2, hv2⟩ : ∃ v2, decide (x ≤ (j : Int)) = v2 := ⟨_, rfl⟩
          have HX : Hid ((b && dgood d (j + 1)) = v2) := by unfold Hid; rw [HST.out, decide_eq_true h1, hv2]; rfl
          go_wp2_with fail
          go_round
          case rel => exact ⟨j + 1, by omega, by go_num, by rw [HX.out]⟩
          case measure => simp [intOf]; omega
        · have d1 : decide (0 ≤ x) = false := decide_eq_false h1
          have HX : Hid ((b && dgood d (j + 1)) = false) := by unfold Hid; rw [HST.out, d1]; rfl
          go_wp2_with fail
          go_round
          case rel => exact ⟨j + 1, by omega, by go_num, by rw [HX.out]⟩
          case measure => simp [intOf]; omega
    · have i2 : ¬ (j : Int) < (d.length : Int) := by omega
      have HJ : Hid (j = d.length) := by unfold Hid; omega
      obtain ⟨v, hv⟩ : ∃ v, (b && dgood d j) = v := ⟨_, rfl⟩
      rw [hv]
      cases v with
      | false =>
        have HP : Hid (dealL d = [] ∧ dealE d = 2) := by
          refine deal_bad ?_
          have h := hv
          rw [HJ.out, ← HBD.out] at h
          simp at h
          by_cases e : 20 < d.length
          · exact .inl e
          · exact .inr (by simpa using h (by omega))
        clear hv
        go_wp2_with fail
        go_ret2
        rw [HP.out.1, HP.out.2]
        exact SOut.nil_ (Below.refl _ _)
      | true =>
        rw [HJ.out, ← HBD.out] at hv
        simp at hv
        have HG := Lib.hid hv.2
        have hl := hv.1
        have HDL : Hid (dealL d = tab (pdl d d.length) d.length ∧ dealE d = 0) := by
          unfold dealL dealE Hid
          rw [if_pos ⟨by omega, HG.out⟩, if_pos ⟨by omega, HG.out⟩]
          exact ⟨rfl, rfl⟩
        clear hv
        go_wp2_with fail
        go_loopw [7, 38] (fun s7 s38 wr => ∃ i : Nat, i ≤ d.length ∧ s38 = .int .i64 i ∧ Own wr w.heap.size 3 s7 ((tab (fun x => (x : Int)) i).map (.int .i64)) ∧ Below w.heap.size w wr) (fun _ s38 _ => d.length - (intOf s38).toNat)
        case atStart => exact ⟨0, Nat.zero_le _, rfl, Own.none_, Below.refl _ _⟩
        case round =>
          obtain ⟨i, hi, rfl, hown, hbel⟩ := hrel
          have HOW := Lib.hid hown
          have HB := Lib.hid hbel
          have HSZ := Lib.hid hbel.size
          clear hown hbel
          by_cases hlt2 : i < d.length
          · have i3 : (i : Int) < (d.length : Int) := by omega
            go_wp2_with (first
              | (at_builtin; go_must (refine wpList_push _ rfl _ _ 22 3 8 elem_ints rfl w.heap.size _ _ rfl (Own.alloc' HOW.out _) (.int .i64 i) ⟨wr.heap.size, 0, none⟩ 1 rfl (cell_new1 _ _ _) rfl (by rw [List.length_map, tab_len]; omega) (by rw [List.length_map, tab_len]; unfold maxLen; omega) (by simp; exact Nat.le_succ_of_le HSZ.out) ?_); intro v3 w3 hown3 hbel3; have HO3 := Lib.hid hown3; have HB3 := Lib.hid hbel3; clear hown3 hbel3)
              | fail)
            go_roundw
            case rel =>
              refine ⟨i + 1, by omega, by go_num, ?_, (HB.out.alloc HSZ.out _).trans HB3.out⟩
              have h := HO3.out
              rw [tab_succ, List.map_append]; exact h
            case measure => simp [intOf]; omega
          · have i3 : ¬ (i : Int) < (d.length : Int) := by omega
            have HID : Hid (i = d.length) := by unfold Hid; omega
            have HO0 := HOW.out
            rw [HID.out] at HO0
            obtain ⟨A2, c2, rfl, hc2, hown2⟩ := HO0.res2
            rw [List.length_map, tab_len] at hown2 hc2
            have HO2 : Hid (Own wr w.heap.size 3 (.slice A2 d.length c2) ((tab (pdl d 0) d.length).map (.int .i64))) := hown2
            rw [List.length_map, tab_len]
            clear HO0 HOW hown2
            obtain ⟨wo, rfl⟩ : ∃ wo : World, wo = wr := ⟨_, rfl⟩
            go_wp2_with fail
            go_loopw [48] (fun s48 wr => ∃ i : Nat, i ≤ d.length ∧ s48 = .int .i64 i ∧ Own wr w.heap.size 3 (.slice A2 d.length c2) ((tab (pdl d i) d.length).map (.int .i64)) ∧ Below w.heap.size w wr) (fun s48 _ => d.length - (intOf s48).toNat)
            case atStart => exact ⟨0, Nat.zero_le _, rfl, HO2.out, HB.out⟩
            case round =>
              obtain ⟨i, hi, rfl, hown, hbel⟩ := hrel
              have HOW := Lib.hid hown
              have HB := Lib.hid hbel
              clear hown hbel HO2
              by_cases hlt3 : i < d.length
              · obtain ⟨K, hK⟩ : ∃ K, K + i + 1 = d.length := ⟨d.length - 1 - i, by omega⟩
                obtain ⟨g, rfl, hg0⟩ := HOW.out.at_ (by omega)
                have hg := dgood_get HG.out K (by omega)
                obtain ⟨ad, rfl, _, hcell⟩ := (HS.out.below HB.out).pat (show K < d.length by omega)
                have hstp : pdl d (i + 1) = updf (updf (pdl d i) K (pdl d i (pat d K).toNat)) (pat d K).toNat (pdl d i K) := by
                  rw [pdl, show d.length - 1 - i = K by omega]
                obtain ⟨X, hX⟩ : ∃ X : Nat, pat d K = X := ⟨(pat d K).toNat, by omega⟩
                rw [hX] at hg hcell hstp
                rw [Int.toNat_natCast, updf_swap] at hstp
                have HSTP := Lib.hid hstp
                have HKE := Lib.hid hK
                have i4 : (i : Int) < (d.length : Int) := by omega
                have i5 : (d.length : Int) - 1 - (i : Int) = (K : Int) := by omega
                have i6 : (K : Int) < (d.length : Int) := by omega
                have hKd : K < d.length := by omega
                clear hX hstp hK
                have hXd : X < d.length := by omega
                have i7 : (X : Int) < (d.length : Int) := by omega
                clear hg
                generalize pdl d i = f at *
                have c1 := HOW.out.cell (j := X) (u := .int .i64 (f X)) (by rw [List.getElem?_map, tab_get hXd]; rfl)
                have c2 := HOW.out.cell (j := K) (u := .int .i64 (f K)) (by rw [List.getElem?_map, tab_get hKd]; rfl)
                have f1 := HOW.out.frozen X
                have f2 := HOW.out.frozen K
                have HO3 := Lib.hid (HOW.out.set X (.int .i64 (f K)))
                have hms : (List.map (Value.int .i64) (tab f d.length)).set X (.int .i64 (f K)) = (tab (updf f X (f K)) d.length).map (.int .i64) := by rw [← tab_set, List.map_set]
                rw [hms] at HO3
                clear hms
                have c3 := HO3.out.cell (j := K) (u := .int .i64 (updf f X (f K) K)) (by rw [List.getElem?_map, tab_get hKd]; rfl)
                have HO4 := Lib.hid (HO3.out.set K (.int .i64 (f X)))
                have hms : (List.map (Value.int .i64) (tab (updf f X (f K)) d.length)).set K (.int .i64 (f X)) = (tab (updf (updf f X (f K)) K (f X)) d.length).map (.int .i64) := by rw [← tab_set (updf f X (f K)), List.map_set]
                rw [hms, ← HSTP.out] at HO4
                clear hms
                go_wp2_with fail
                have HC3 := Lib.hid c3
                clear c3
                go_quiet (fail)
                have c3 : ((wr.drewN nq).setCell ⟨g, X, none⟩ (.int .i64 (f K))).cell? ⟨g, K, none⟩ = some (.int .i64 (updf f X (f K) K)) := HC3.out
                go_wp2_with fail
                go_roundw
                case rel => exact ⟨i + 1, by omega, by go_num, HO4.out, Below.setCell (p := ⟨g, K, none⟩) (Below.setCell (p := ⟨g, X, none⟩) (below_drewN HB.out _) hg0 _) hg0 _⟩
                case measure => simp [intOf]; omega
              · have i4 : ¬ (i : Int) < (d.length : Int) := by omega
                have HI : Hid (i = d.length) := by unfold Hid; omega
                have h := HOW.out
                rw [HI.out] at h
                have HO5 := Lib.hid h
                clear h
                go_wp2_with fail
                go_ret2
                rw [HDL.out.1, HDL.out.2]
                refine ⟨A2, c2, by rw [tab_len]; rfl, by rw [tab_len]; exact hc2, HO5.out.seg, HB.out⟩
end Go.Proofs.Ytmcbkjepjijfjaa
