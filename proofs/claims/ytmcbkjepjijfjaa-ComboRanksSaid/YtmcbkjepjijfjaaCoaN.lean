/- The choice behind one, walked. No condition. -/
import Derived.Test.YtmcbkjepjijfjaaCoaW
import Derived.Test.YtmcbkjepjijfjaaApp2
namespace Go.Proofs.Ytmcbkjepjijfjaa
open Go.ChangeShapes Go.WideShapes Go.ChangeAt Go.RowKit
set_option linter.unusedVariables false

theorem eright_len {n : Int} {zs : List Int} (h : eright n zs = true) : zs.length ≤ 60 ∧ 0 ≤ n ∧ n ≤ 60 ∧ eokc n zs zs.length = true := by
  unfold eright at h
  simp at h
  obtain ⟨⟨h0, h60⟩, hok⟩ := h
  refine ⟨?_, h0, h60, hok⟩
  rcases Nat.eq_zero_or_pos zs.length with h | h
  · omega
  · have key : ∀ j, j < zs.length → (j : Int) ≤ zat zs j := by
      intro j
      induction j with
      | zero => intro hj; exact eokc_nn hok hj
      | succ j ih => intro hj; have := ih (by omega); have := eokc_lt hok (show j < j + 1 by omega) hj; omega
    have h1 := key (zs.length - 1) (by omega)
    have h2 := (eokc_at hok (show zs.length - 1 < zs.length by omega)).2
    omega
def nextR (n : Int) (zs : List Int) : List Int × Int := if eright n zs = true then nxt n zs 0 zs.length else ([], 1)
/-- The new choice while its low places are set. -/
def nstep (c : List Int) (k i : Nat) : Nat → Int := fun x => if x < i then (x : Int) else if x = k then zat c k + 1 else zat c x
theorem nstep_end (c : List Int) (k : Nat) : tab (nstep c k k) c.length = cnext c k := rfl
theorem nstep_next (c : List Int) (k i : Nat) : updf (nstep c k i) i i = nstep c k (i + 1) := by
  funext x
  unfold updf nstep
  by_cases e : x = i
  · subst e; rw [if_pos rfl, if_pos (Nat.lt_succ_self _)]
  · rw [if_neg e]
    by_cases e2 : x < i
    · rw [if_pos e2, if_pos (by omega)]
    · rw [if_neg e2, if_neg (show ¬ x < i + 1 by omega)]
theorem nstep_zero (c : List Int) (k : Nat) : tab (nstep c k 0) c.length = c.set k (zat c k + 1) := by
  have h := tab_set (pat c) c.length k (zat c k + 1)
  rw [tab_pat] at h
  rw [h]
  refine tab_congr fun i hi => ?_
  unfold nstep updf
  rw [if_neg (by omega)]
  by_cases e : i = k
  · rw [if_pos e, if_pos e]
  · rw [if_neg e, if_neg e]; rfl
set_option maxRecDepth 20000 in
set_option maxHeartbeats 4000000 in
theorem next_any (n : Int) (zs : List Int) (A : Option Addr) (c : Nat) (w : World) (hs : Seg w w.heap.size A (zs.map (.int .i64))) (hm : zs.length ≤ 9223372036854775807) :
    Calls Try.prog 66 #[.int .i64 n, .slice A zs.length c] w fun e w' => SOut w w' e (nextR n zs).1 (nextR n zs).2 := by
  have hr := cright_any n zs A c _ w hs hm
  have HS := Lib.hid hs
  cases hg : eright n zs with
  | false =>
    rw [hg] at hr
    have HR := Lib.hid hr
    have HL : Hid (nextR n zs = ([], 1)) := by unfold nextR Hid; rw [hg]; rfl
    clear hr hg hs
    go_enter Try.func66, Try.ntmps66
    go_wp2_with fail
    refine HR.out.mono ?_
    rintro e w1 ⟨rfl, rfl⟩
    go_wp2_with fail
    go_ret2
    rw [HL.out]
    exact SOut.nil_ (Below.refl _ _)
  | true =>
    rw [hg] at hr
    have HR := Lib.hid hr
    have HL : Hid (nextR n zs = nxt n zs 0 zs.length) := by unfold nextR Hid; rw [hg]; rfl
    obtain ⟨hl, h0, h60, hok⟩ := eright_len hg
    have HOK := Lib.hid hok
    clear hr hg hs hok
    go_enter Try.func66, Try.ntmps66
    go_wp2_with fail
    refine HR.out.mono ?_
    rintro e w1 ⟨rfl, rfl⟩
    go_wp2_with fail
    go_loop [17] (fun s17 => ∃ k f : Nat, k + f = zs.length ∧ s17 = .int .i64 k ∧ Hid (nextR n zs = nxt n zs k f)) (fun s17 => zs.length - (intOf s17).toNat)
    case atStart => exact ⟨0, zs.length, by omega, rfl, HL.out⟩
    case round =>
      obtain ⟨k, f, hkf, rfl, hnx⟩ := hrel
      have HNX := Lib.hid hnx.out
      clear hnx
      by_cases hlt : k < zs.length
      · obtain ⟨f, rfl⟩ : ∃ g, f = g + 1 := ⟨f - 1, by omega⟩
        have i2 : (k : Int) < (zs.length : Int) := by omega
        obtain ⟨ad, rfl, _, hcell⟩ := HS.out.zat hlt
        have hnn := eokc_nn HOK.out hlt
        have hxn := (eokc_at HOK.out hlt).2
        have HYES : Hid (zat zs k + 1 < cend n zs k → nextR n zs = (cnext zs k, 0)) := fun h => by rw [HNX.out, nxt, if_pos h]
        have HNO : Hid (¬ zat zs k + 1 < cend n zs k → nextR n zs = nxt n zs (k + 1) f) := fun h => by rw [HNX.out, nxt, if_neg h]
        have HST : Hid ((zs.map (Value.int .i64)).set k (.int .i64 (zat zs k + 1)) = (tab (nstep zs k 0) zs.length).map (.int .i64)) := by unfold Hid; rw [nstep_zero, List.map_set]
        have HK60 : Hid (zat zs k = pat zs k) := rfl
        obtain ⟨K1, hK1⟩ : ∃ K1, k + 1 = K1 := ⟨_, rfl⟩
        have i4 : (k : Int) + 1 = (K1 : Int) := by omega
        rw [hK1] at HNO
        have HCEP : Hid (k + 1 < zs.length → cend n zs k = zat zs K1) := fun h => by rw [← hK1]; exact if_pos h
        by_cases hk1 : k + 1 < zs.length
        · have i3 : (K1 : Int) < (zs.length : Int) := by omega
          obtain ⟨ad2, e2, _, hcell2⟩ := HS.out.zat (show K1 < zs.length by omega)
          obtain rfl : ad = ad2 := by injection e2
          have HCE : Hid (cend n zs k = zat zs K1) := HCEP.out hk1
          rw [HCE.out] at HYES HNO
          have hy0 := eokc_nn HOK.out (show K1 < zs.length by omega)
          have hyn := (eokc_at HOK.out (show K1 < zs.length by omega)).2
          have HKK := Lib.hid hK1
          clear e2 hK1
          generalize zat zs K1 = y at *
          generalize hx : zat zs k = x at *
          have HX := Lib.hid hx
          clear hx
          by_cases hlt2 : x + 1 < y
          · have HY := Lib.hid (HYES.out hlt2)
            have hbn : (List.nil : List Value).length + zs.length ≤ maxLen := by unfold maxLen; simp; omega
            have hbb : ((List.nil : List Value).length + zs.length) * 8 ≤ 140737488355328 := by simp; omega
            go_wp2_with (first
              | (at_builtin; go_must (refine wpList_append_seg _ rfl _ _ elem_ints rfl w.heap.size _ [] rfl (own_empty w _ _ (Nat.le_refl _)) c rfl (by rw [List.length_map]) (HS.out.alloc (Nat.le_refl _) _) (ints_one zs) hbn hbb (by simp) ?_); intro v3 w3 hown3 hgr3 hnew3; clear hnew3; rw [List.nil_append] at hown3; obtain ⟨A3, c3, rfl, hc3, hown4⟩ := hown3.res2; rw [List.length_map] at hown4 hc3; obtain ⟨g, rfl, hg0⟩ := hown4.at_ (show 0 < zs.length by omega); have hc := hown4.cell (j := k) (u := .int .i64 x) (by rw [List.getElem?_map, List.getElem?_eq_getElem hlt, ← zat_get hlt, HX.out]; rfl); have hf := hown4.frozen k; have HO4 := Lib.hid hown4; have HC3 := Lib.hid hc3; have HB3 : Hid (Below w.heap.size w w3) := ((Below.refl _ _).alloc (Nat.le_refl _) _).grown hgr3 (by simp) (fun q hq => by injection hq with hq; exact Nat.le_of_eq hq); clear hown3 hgr3 hown4 hc3; rw [List.length_map])
              | fail)
            have h5 := HO4.out.set k (.int .i64 (x + 1))
            rw [HST.out] at h5
            have HO5 := Lib.hid h5
            have HB5 := Lib.hid (HB3.out.setCell (p := ⟨g, k, none⟩) hg0 (.int .i64 (x + 1)))
            clear h5 hc hf HO4 HB3
            generalize w3.setCell ⟨g, k, none⟩ (.int .i64 (x + 1)) = w5 at *
            clear i2 i3 i4
            go_loopw [47] (fun s47 wr => ∃ i : Nat, i ≤ k ∧ s47 = .int .i64 i ∧ Own wr w.heap.size 3 (.slice (some ⟨g, 0, none⟩) zs.length c3) ((tab (nstep zs k i) zs.length).map (.int .i64)) ∧ Below w.heap.size w wr) (fun s47 _ => k - (intOf s47).toNat)
            case atStart => exact ⟨0, Nat.zero_le _, rfl, HO5.out, HB5.out⟩
            case round =>
              obtain ⟨i, hi, rfl, hown, hbel⟩ := hrel
              have HOW := Lib.hid hown
              have HB := Lib.hid hbel
              clear hown hbel
              by_cases hlt3 : i < k
              · have i5 : (i : Int) < (k : Int) := by omega
                have hil : i < zs.length := by omega
                have i6 : (i : Int) < (zs.length : Int) := by omega
                have hc := HOW.out.cell (j := i) (u := .int .i64 (nstep zs k i i)) (by rw [List.getElem?_map, tab_get hil]; rfl)
                have hf := HOW.out.frozen i
                have h6 := HOW.out.set i (.int .i64 i)
                rw [← List.map_set, tab_set, nstep_next] at h6
                have HO6 := Lib.hid h6
                clear h6
                go_wp2_with fail
                go_roundw
                case rel => exact ⟨i + 1, by omega, by go_num, HO6.out, HB.out.setCell (p := ⟨g, i, none⟩) hg0 _⟩
                case measure => simp [intOf]; omega
              · have i5 : ¬ (i : Int) < (k : Int) := by omega
                obtain rfl : i = k := by omega
                have h7 := HOW.out
                rw [nstep_end] at h7
                have HO7 := Lib.hid h7
                clear h7
                go_wp2_with fail
                go_ret2
                rw [HY.out]
                exact ⟨some ⟨g, 0, none⟩, c3, by rw [cnext_len]; rfl, by rw [cnext_len]; exact HC3.out, HO7.out.seg, HB.out⟩
          · have HY := Lib.hid (HNO.out hlt2)
            go_wp2_with fail
            go_round
            case rel => exact ⟨K1, f, by have := HKK.out; omega, rfl, HY.out⟩
            case measure => simp [intOf]; have := HKK.out; omega
        · have i3 : ¬ (K1 : Int) < (zs.length : Int) := by omega
          have HKK := Lib.hid hK1
          have HCE : Hid (cend n zs k = n) := if_neg hk1
          clear hK1
          rw [HCE.out] at HYES HNO
          generalize hx : zat zs k = x at *
          have HX := Lib.hid hx
          clear hx
          by_cases hlt2 : x + 1 < n
          · have HY := Lib.hid (HYES.out hlt2)
            have hbn : (List.nil : List Value).length + zs.length ≤ maxLen := by unfold maxLen; simp; omega
            have hbb : ((List.nil : List Value).length + zs.length) * 8 ≤ 140737488355328 := by simp; omega
            go_wp2_with (first
              | (at_builtin; go_must (refine wpList_append_seg _ rfl _ _ elem_ints rfl w.heap.size _ [] rfl (own_empty w _ _ (Nat.le_refl _)) c rfl (by rw [List.length_map]) (HS.out.alloc (Nat.le_refl _) _) (ints_one zs) hbn hbb (by simp) ?_); intro v3 w3 hown3 hgr3 hnew3; clear hnew3; rw [List.nil_append] at hown3; obtain ⟨A3, c3, rfl, hc3, hown4⟩ := hown3.res2; rw [List.length_map] at hown4 hc3; obtain ⟨g, rfl, hg0⟩ := hown4.at_ (show 0 < zs.length by omega); have hc := hown4.cell (j := k) (u := .int .i64 x) (by rw [List.getElem?_map, List.getElem?_eq_getElem hlt, ← zat_get hlt, HX.out]; rfl); have hf := hown4.frozen k; have HO4 := Lib.hid hown4; have HC3 := Lib.hid hc3; have HB3 : Hid (Below w.heap.size w w3) := ((Below.refl _ _).alloc (Nat.le_refl _) _).grown hgr3 (by simp) (fun q hq => by injection hq with hq; exact Nat.le_of_eq hq); clear hown3 hgr3 hown4 hc3; rw [List.length_map])
              | fail)
            have h5 := HO4.out.set k (.int .i64 (x + 1))
            rw [HST.out] at h5
            have HO5 := Lib.hid h5
            have HB5 := Lib.hid (HB3.out.setCell (p := ⟨g, k, none⟩) hg0 (.int .i64 (x + 1)))
            clear h5 hc hf HO4 HB3
            generalize w3.setCell ⟨g, k, none⟩ (.int .i64 (x + 1)) = w5 at *
            clear i2 i3 i4
            go_loopw [47] (fun s47 wr => ∃ i : Nat, i ≤ k ∧ s47 = .int .i64 i ∧ Own wr w.heap.size 3 (.slice (some ⟨g, 0, none⟩) zs.length c3) ((tab (nstep zs k i) zs.length).map (.int .i64)) ∧ Below w.heap.size w wr) (fun s47 _ => k - (intOf s47).toNat)
            case atStart => exact ⟨0, Nat.zero_le _, rfl, HO5.out, HB5.out⟩
            case round =>
              obtain ⟨i, hi, rfl, hown, hbel⟩ := hrel
              have HOW := Lib.hid hown
              have HB := Lib.hid hbel
              clear hown hbel
              by_cases hlt3 : i < k
              · have i5 : (i : Int) < (k : Int) := by omega
                have hil : i < zs.length := by omega
                have i6 : (i : Int) < (zs.length : Int) := by omega
                have hc := HOW.out.cell (j := i) (u := .int .i64 (nstep zs k i i)) (by rw [List.getElem?_map, tab_get hil]; rfl)
                have hf := HOW.out.frozen i
                have h6 := HOW.out.set i (.int .i64 i)
                rw [← List.map_set, tab_set, nstep_next] at h6
                have HO6 := Lib.hid h6
                clear h6
                go_wp2_with fail
                go_roundw
                case rel => exact ⟨i + 1, by omega, by go_num, HO6.out, HB.out.setCell (p := ⟨g, i, none⟩) hg0 _⟩
                case measure => simp [intOf]; omega
              · have i5 : ¬ (i : Int) < (k : Int) := by omega
                obtain rfl : i = k := by omega
                have h7 := HOW.out
                rw [nstep_end] at h7
                have HO7 := Lib.hid h7
                clear h7
                go_wp2_with fail
                go_ret2
                rw [HY.out]
                exact ⟨some ⟨g, 0, none⟩, c3, by rw [cnext_len]; rfl, by rw [cnext_len]; exact HC3.out, HO7.out.seg, HB.out⟩
          · have HY := Lib.hid (HNO.out hlt2)
            go_wp2_with fail
            go_round
            case rel => exact ⟨K1, f, by have := HKK.out; omega, rfl, HY.out⟩
            case measure => simp [intOf]; have := HKK.out; omega
      · have i2 : ¬ (k : Int) < (zs.length : Int) := by omega
        obtain rfl : f = 0 := by omega
        have HN : Hid (nextR n zs = ([], 3)) := HNX.out
        go_wp2_with fail
        go_ret2
        rw [HN.out]
        exact SOut.nil_ (Below.refl _ _)
end Go.Proofs.Ytmcbkjepjijfjaa
