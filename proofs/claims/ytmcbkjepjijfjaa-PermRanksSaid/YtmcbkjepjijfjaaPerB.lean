/- The order of a rank, by the reference, walked. No condition. -/
import Derived.Test.YtmcbkjepjijfjaaPerK
import Derived.Test.YtmcbkjepjijfjaaMapB
import Derived.Test.YtmcbkjepjijfjaaApp
namespace Go.Proofs.Ytmcbkjepjijfjaa
open Go.ChangeShapes Go.WideShapes Go.ChangeAt Go.RowKit
set_option linter.unusedVariables false

set_option maxRecDepth 20000 in
set_option maxHeartbeats 2000000 in
theorem dat_bad (n r : Int) (w : World) (h : ¬ (0 ≤ n ∧ n ≤ 20 ∧ 0 ≤ r)) :
    Calls Try.prog 29 #[.int .i64 n, .int .i64 r] w fun e w' => SOut w w' e (atL n r) (atE n r) := by
  have HL : Hid (atL n r = [] ∧ atE n r = 2) := by
    unfold atL atE Hid
    rw [if_neg (fun h2 => h ⟨h2.1, h2.2.1, h2.2.2.1⟩), if_neg h]
    exact ⟨rfl, rfl⟩
  rcases (by omega : n < 0 ∨ (¬ n < 0 ∧ 20 < n) ∨ (¬ n < 0 ∧ ¬ 20 < n ∧ r < 0)) with h1 | ⟨h1, h2⟩ | ⟨h1, h2, h3⟩
  all_goals
    clear h
    go_enter Try.func29, Try.ntmps29
    go_wp2_with fail
    go_ret2
    rw [HL.out.1, HL.out.2]
    exact SOut.nil_ (Below.refl _ _)
set_option maxRecDepth 20000 in
set_option maxHeartbeats 2000000 in
theorem dat_ok (n r : Nat) (w : World) (hn : n ≤ 20) (hr : (r : Int) ≤ 9223372036854775807) :
    Calls Try.prog 29 #[.int .i64 n, .int .i64 r] w fun e w' => SOut w w' e (atL n r) (atE n r) := by
  have i1 : ¬ (n : Int) < 0 := by omega
  have i2 : ¬ 20 < (n : Int) := by omega
  have i3 : ¬ (r : Int) < 0 := by omega
  have hfb := fct_le hn
  by_cases hlt : r < fct n
  · have HL : Hid (atL n r = ot n r n ∧ atE n r = 0) := by
      unfold atL atE Hid
      rw [if_pos ⟨by omega, by omega, by omega, by rw [Int.toNat_natCast]; omega⟩, if_pos ⟨by omega, by omega, by omega⟩, if_pos (by rw [Int.toNat_natCast]; omega)]
      exact ⟨rfl, rfl⟩
    have HDF := Lib.hid (dfact_any n w hn)
    have HRN : Hid (r % fct n = r) := Nat.mod_eq_of_lt hlt
    have i4 : ¬ fct n ≤ r := by omega
    have hmm := @run_makeMap Try.prog
    clear hlt
    go_enter Try.func29, Try.ntmps29
    go_wp2_with fail
    refine HDF.out.mono ?_
    rintro e w' ⟨rfl, rfl⟩
    go_wp2_with fail
    clear hmm i4 i1 i2 i3 hfb
    go_loopw [1, 6, 8] (fun s1 s6 s8 wr => ∃ (m : Nat) (z : Int), m ≤ n ∧ s8 = .int .i64 z ∧ Hid (z + 1 = m) ∧ s1 = .int .i64 (r % fct m : Nat) ∧ Own wr (w.heap.size + 1) 3 s6 ((ot n r (n - m)).map (.int .i64)) ∧ MapB wr w.heap.size (n - m) (fun x => decide (x ∈ ot n r (n - m))) ∧ Below w.heap.size w wr ∧ w.heap.size + 1 ≤ wr.heap.size) (fun _ _ s8 _ => (intOf s8 + 1).toNat)
    case atStart => exact ⟨n, _, Nat.le_refl _, rfl, by unfold Hid; omega, by rw [HRN.out], by rw [Nat.sub_self]; exact Own.none_, by rw [Nat.sub_self]; exact (MapB.made w).congr fun x => by simp [ot], (Below.refl _ _).alloc (Nat.le_refl _) _, by simp⟩
    case round =>
      obtain ⟨m, z, hm, rfl, hz, rfl, hown, hmap, hbel, hsz⟩ := hrel
      have HOW := Lib.hid hown
      have HM := Lib.hid hmap
      have HB := Lib.hid hbel
      have HSZ := Lib.hid hsz
      clear hown hmap hbel hsz
      by_cases hm0 : 0 < m
      · obtain ⟨K, rfl⟩ : ∃ K, m = K + 1 := ⟨m - 1, by omega⟩
        obtain rfl : z = (K : Int) := by have := hz.out; omega
        obtain ⟨i, hi⟩ : ∃ i, n - (K + 1) = i := ⟨_, rfl⟩
        have hin : i < n := by omega
        have hsk := skip_step (r := r) hin
        have hmd := mod_step (r := r) hin
        rw [show n - i = K + 1 by omega, show n - (i + 1) = K by omega] at hsk hmd
        rw [hi] at HOW HM
        have HIK : Hid (n - K = i + 1) := by unfold Hid; omega
        have hdl := dg_lt (r := r) hin
        have hll := lf_len n r i (by omega)
        have HSO := Lib.hid (lf_sorted n r i)
        have HME := Lib.hid (lf_mem n r i (by omega))
        have HOT : Hid (ot n r (i + 1) = ot n r i ++ [pat (lf n r i) (dg n r i)]) := rfl
        have hol := ot_len n r i
        have hrl : r % fct (K + 1) ≤ r := Nat.mod_le _ _
        have HDF := Lib.hid (fun w => dfact_any K w (by omega))
        have hfp := fct_pos K
        have hfk := fct_le (n := K) (by omega)
        generalize r % fct (K + 1) = rr at *
        have i5 : (rr : Int) ≤ 9223372036854775807 := by omega
        have i6 : 0 < (fct K : Int) := by omega
        have hq1 : (rr : Int) / ((fct K : Nat) : Int) = ((dg n r i : Nat) : Int) := by rw [← hsk]; exact (Int.natCast_ediv _ _).symm
        have hq2 : (rr : Int) % ((fct K : Nat) : Int) = ((r % fct K : Nat) : Int) := by rw [← hmd]; exact (Int.natCast_emod _ _).symm
        have hr2 : r % fct K ≤ r := Nat.mod_le _ _
        generalize hE : r % fct K = r2 at *
        have HE := Lib.hid hE
        clear hE
        generalize hF : fct K = f at *
        have HF := Lib.hid hF
        clear hF
        have HSC : Hid (Scan (lf n r i) (dg n r i) 0 0) := scan_start (by omega) fun x hx => ((HME.out x).1 hx).1
        generalize dg n r i = d at *
        generalize lf n r i = l at *
        generalize ot n r i = o at *
        have i11 : (r2 : Int) ≤ 9223372036854775807 := by omega
        have HHI := Lib.hid hi
        have hog : o.length ≤ 20 := by omega
        clear hsk hmd hi hol hll
        go_wp2_with fail
        refine (HDF.out _).mono ?_
        rintro e w' ⟨rfl, rfl⟩
        go_wp2_with fail
        refine (HDF.out _).mono ?_
        rintro e w' ⟨rfl, rfl⟩
        go_wp2_with fail
        have HQ2 := Lib.hid hq2
        clear hq1 hq2
        go_loop [9, 10] (fun s9 s10 => ∃ x t j : Nat, s9 = .int .i64 t ∧ s10 = .int .i64 x ∧ j + t = d ∧ Scan l d x j) (fun _ s10 => n - (intOf s10).toNat)
        case atStart => exact ⟨0, d, 0, rfl, rfl, by omega, HSC.out⟩
        case round =>
          obtain ⟨x, t, j, rfl, rfl, hjt, hsc⟩ := hrel
          have HS := Lib.hid hsc
          have hxn : x < n := scan_lt hsc fun y hy => ((HME.out y).1 hy).2.1
          have hwx : (Lit.int .i64 (x : Int)).wf = true := WalkArith.wf_i64 (by omega)
          have hlk := HM.out.look Try.underlying82 hwx
          have HWX := Lib.hid hwx
          clear hsc hwx
          by_cases hmem : (x : Int) ∈ o
          · have HNL : Hid ((x : Int) ∉ l) := fun h => ((HME.out x).1 h).2.2 hmem
            rw [decide_eq_true hmem] at hlk
            clear hmem
            go_wp2_with fail
            go_round
            case rel => exact ⟨x + 1, t, j, rfl, by go_num, hjt, scan_skip HSO.out HS.out HNL.out⟩
            case measure => simp [intOf]; omega
          · have HXL : Hid ((x : Int) ∈ l) := (HME.out x).2 ⟨by omega, by omega, hmem⟩
            rw [decide_eq_false hmem] at hlk
            clear hmem
            by_cases ht : 0 < t
            · obtain ⟨t, rfl⟩ : ∃ u, t = u + 1 := ⟨t - 1, by omega⟩
              have i7 : 0 < ((t + 1 : Nat) : Int) := by omega
              have i8 : ((t + 1 : Nat) : Int) - 1 = (t : Int) := by omega
              have i9 : t + 1 ≤ 100 := by omega
              generalize t + 1 = T at *
              go_wp2_with fail
              go_round
              case rel => exact ⟨x + 1, t, j + 1, rfl, by go_num, by omega, scan_next HSO.out HS.out HXL.out (by omega)⟩
              case measure => simp [intOf]; omega
            · obtain rfl : t = 0 := by omega
              obtain rfl : j = d := by omega
              have HPX : Hid (pat l j = (x : Int)) := scan_in HSO.out HS.out HXL.out
              have HMW := Lib.hid HM.out.lt
              go_wp2_with (first
                | (at_mapUpdate; go_must (refine wpList_mapb_store _ rfl _ _ _ _ rfl Try.underlying82 w.heap.size i _ rfl HM.out (by unfold maxLen; omega) x true rfl rfl HWX.out ?_); intro w3 hm3 hg3; have HM3 := Lib.hid hm3; have HG3 := Lib.hid hg3; have HO3 := Lib.hid (HOW.out.grown hg3 (Nat.lt_succ_self _)); have HB3 : Hid (Below w.heap.size w w3) := HB.out.grown hg3 (Nat.le_of_lt HMW.out) (fun k e => by injection e with e; omega); have HSZ3 : Hid (w.heap.size + 1 ≤ w3.heap.size) := Nat.le_trans HSZ.out hg3.size; clear hm3 hg3)
                | (at_builtin; go_must (refine wpList_push _ rfl _ _ 22 3 8 elem_ints rfl (w.heap.size + 1) _ _ rfl (Own.alloc' HO3.out _) (.int .i64 x) ⟨w3.heap.size, 0, none⟩ 1 rfl (cell_new1 _ _ _) rfl (by rw [List.length_map]; omega) (by rw [List.length_map]; unfold maxLen; omega) (by simp; have := HSZ3.out; omega) ?_); intro v4 w4 hown4 hbel4; have HO4 := Lib.hid hown4; have HB4 := Lib.hid hbel4; clear hown4 hbel4)
                | fail)
              have HB5 : Hid (Below (w.heap.size + 1) w3 w4) := ((Below.refl _ _).alloc HSZ3.out _).trans HB4.out
              go_roundw
              case rel =>
                refine ⟨K, (K : Int) - 1, by omega, rfl, by unfold Hid; omega, by rw [HF.out, HE.out, ← HQ2.out], ?_, ?_, HB3.out.trans (HB5.out.mono (Nat.le_succ _)), Nat.le_trans HSZ3.out HB5.out.size⟩
                · have h := HO4.out
                  rw [HIK.out, HOT.out, HPX.out, List.map_append]; exact h
                · have h := HM3.out.below HB5.out (Nat.lt_succ_self _)
                  rw [HIK.out, HOT.out, HPX.out]
                  refine h.congr fun y => ?_
                  by_cases e : y = (x : Int)
                  · rw [if_pos e, decide_eq_true (by simp [e])]
                  · rw [if_neg e]
                    congr 1
                    simp [e]
              case measure => simp [intOf]
      · have hz1 : ¬ 0 ≤ z := by have := hz.out; omega
        have HM0 : Hid (m = 0) := by unfold Hid; omega
        have ho := HOW.out
        rw [HM0.out, Nat.sub_zero] at ho
        obtain ⟨A9, c9, hv, hc9, hsg⟩ := ho.res
        subst hv
        have HW9 := Lib.hid hsg
        have HC9 := Lib.hid hc9
        clear hsg hc9 ho
        go_wp2_with fail
        go_ret2
        rw [HL.out.1, HL.out.2]
        have h2 := HC9.out
        rw [List.length_map] at h2
        exact ⟨A9, c9, rfl, h2, HW9.out, HB.out⟩
  · have HL : Hid (atL n r = [] ∧ atE n r = 3) := by
      unfold atL atE Hid
      rw [if_neg (by rintro ⟨_, _, _, h⟩; rw [Int.toNat_natCast] at h; omega), if_pos ⟨by omega, by omega, by omega⟩, if_neg (by rw [Int.toNat_natCast]; omega)]
      exact ⟨rfl, rfl⟩
    have HDF := Lib.hid (dfact_any n w hn)
    have i4 : fct n ≤ r := by omega
    generalize fct n = f at *
    go_enter Try.func29, Try.ntmps29
    go_wp2_with fail
    refine HDF.out.mono ?_
    rintro e w' ⟨rfl, rfl⟩
    go_wp2_with fail
    go_ret2
    rw [HL.out.1, HL.out.2]
    exact SOut.nil_ (Below.refl _ _)
end Go.Proofs.Ytmcbkjepjijfjaa
