/- Sums by a tree: draws by the reference, and the law's function, walked. No condition. -/
import Derived.Test.YtmcbkjepjijfjaaFenD
import Derived.Test.YtmcbkjepjijfjaaSeqE
namespace Go.Proofs.Ytmcbkjepjijfjaa
open Go.ChangeShapes Go.WideShapes Go.ChangeAt Go.RowKit
set_option linter.unusedVariables false

set_option maxRecDepth 20000 in
set_option maxHeartbeats 4000000 in
theorem idraw_any (l ns : List Int) (A C : Option Addr) (c d : Nat) (w : World) (hs : Seg w w.heap.size A (l.map (.int .i64))) (ht : Seg w w.heap.size C (ns.map (.int .i64))) (hm : l.length ≤ 9223372036854775807) (hm2 : ns.length < 17592186044416) (hnw : ∀ x, x ∈ ns → x ≤ 9223372036854775807) :
    Calls Try.prog 61 #[.slice A l.length c, .slice C ns.length d] w fun e w' => SOut w w' e (fdrawR l ns).1 (fdrawR l ns).2 := by
  have HS := Lib.hid hs
  have HNS := Lib.hid ht
  have HNW := Lib.hid hnw
  have hw := iwrong_any l A c w hs hm
  cases hg : wokB l with
  | false =>
    rw [hg] at hw
    have HW := Lib.hid hw
    have HL : Hid (fdrawR l ns = ([], 2)) := by unfold fdrawR Hid; rw [hg]; rfl
    clear hw hg hs ht hnw
    go_enter Try.func61, Try.ntmps61
    go_wp2_with fail
    refine HW.out.mono ?_
    rintro e w' ⟨rfl, rfl⟩
    go_wp2_with fail
    go_ret2
    rw [HL.out]
    exact SOut.nil_ (Below.refl _ _)
  | true =>
    rw [hg] at hw
    have HW := Lib.hid hw
    have HL : Hid (fdrawR l ns = drawR l ns []) := by unfold fdrawR Hid; rw [hg]; rfl
    have hl := (wok_at hg).1
    have HLE : Hid (Lefts l l) := ⟨hg, rfl, fun i => .inl rfl⟩
    have hbn : (List.nil : List Value).length + l.length ≤ maxLen := by unfold maxLen; simp; omega
    have hbb : ((List.nil : List Value).length + l.length) * 8 ≤ 140737488355328 := by simp; omega
    clear hw hg hs ht hnw
    go_enter Try.func61, Try.ntmps61
    go_wp2_with fail
    refine HW.out.mono ?_
    rintro e w' ⟨rfl, rfl⟩
    go_wp2_with (first
      | (at_builtin; go_must (refine wpList_append_seg _ rfl _ _ elem_ints rfl w.heap.size _ [] rfl (own_empty w _ _ (Nat.le_refl _)) c rfl (by rw [List.length_map]) (HS.out.alloc (Nat.le_refl _) _) (ints_one l) hbn hbb (by simp) ?_); intro v3 w1 hown3 hgr3 hnew3; clear hnew3; rw [List.nil_append] at hown3; obtain ⟨A3, c3, rfl, hc3, hown4⟩ := hown3.res2; rw [List.length_map] at hown4 hc3; have HO1 := Lib.hid hown4; have HB1 : Hid (Below w.heap.size w w1) := ((Below.refl _ _).alloc (Nat.le_refl _) _).grown hgr3 (by simp) (fun q hq => by injection hq with hq; exact Nat.le_of_eq hq); clear hown3 hgr3 hown4 hc3; rw [List.length_map])
      | fail)
    clear hbn hbb
    have HLT : Hid (∀ g, (Value.slice A3 l.length c3).ownBlock = some g → g < w1.heap.size) := HO1.out.lt
    go_loopw [7, 19] (fun s7 s19 wr => ∃ (j : Nat) (L o : List Int), j ≤ ns.length ∧ s19 = .int .i64 j ∧ Lefts l L ∧ o.length ≤ j ∧ Hid (drawR l ns [] = drawR L (ns.drop j) o) ∧ Own wr w1.heap.size 3 s7 (o.map (.int .i64)) ∧ Own wr w.heap.size 3 (.slice A3 l.length c3) (L.map (.int .i64)) ∧ Below w.heap.size w wr ∧ w1.heap.size ≤ wr.heap.size) (fun _ s19 _ => ns.length - (intOf s19).toNat)
    case atStart => exact ⟨0, l, [], Nat.zero_le _, rfl, HLE.out, Nat.le_refl _, rfl, Own.none_, HO1.out, HB1.out, Nat.le_refl _⟩
    case round =>
      clear HO1
      obtain ⟨j, L, o, hj, rfl, hlf, hol, hdr, hown, hleft, hbel, hsz⟩ := hrel
      have HLF := Lib.hid hlf
      have HOW := Lib.hid hown
      have HLO := Lib.hid hleft
      have HB := Lib.hid hbel
      have HSZ := Lib.hid hsz
      clear hlf hown hleft hbel hsz
      by_cases hlt : j < ns.length
      · have i2 : (j : Int) < (ns.length : Int) := by omega
        obtain ⟨ad, rfl, _, hcell⟩ := (HNS.out.below HB.out).pat hlt
        have HDR := Lib.hid hdr.out
        rw [drop_pat hlt, drawR] at HDR
        have hLN := HLF.out.2.1
        have hnm : pat ns j ≤ 9223372036854775807 := HNW.out _ (by rw [pat_get hlt]; exact List.getElem_mem hlt)
        have hpk := ipick_any L (pat ns j) A3 c3 wr HLO.out.seg (by omega) hnm
        rw [hLN] at HDR hpk
        have HPK : Hid (pickR L (pat ns j) = if pat ns j < 0 ∨ pre L l.length ≤ pat ns j then (0, 3) else (((topk L (pat ns j) l.length : Nat) : Int), 0)) := by
          unfold Hid pickR; rw [if_pos HLF.out.1, hLN]
        clear hdr hLN hnm
        generalize hnn : pat ns j = n at *
        by_cases hbad : n < 0 ∨ pre L l.length ≤ n
        · have HX : Hid (drawR l ns [] = ([], 3)) := by unfold Hid; rw [HDR.out, if_pos hbad]
          rw [HPK.out, if_pos hbad] at hpk
          have HC := Lib.hid hpk
          clear hpk hbad
          go_wp2_with fail
          refine HC.out.mono ?_
          rintro e w' ⟨rfl, rfl⟩
          go_wp2_with fail
          go_ret2
          rw [HL.out, HX.out]
          exact SOut.nil_ HB.out
        · have htk := topk_ok (l := L) (n := n) (by omega) l.length (by omega)
          have HX : Hid (drawR l ns [] = drawR (L.set (topk L n l.length) 0) (ns.drop (j + 1)) (o ++ [((topk L n l.length : Nat) : Int)])) := by unfold Hid; rw [HDR.out, if_neg hbad]
          rw [HPK.out, if_neg hbad] at hpk
          have HC := Lib.hid hpk
          clear hpk hbad HPK HDR
          generalize topk L n l.length = k at *
          have hkN := htk.1
          have HLF2 := Lib.hid (HLF.out.set hkN)
          obtain ⟨g, rfl, hg0⟩ := HLO.out.at_ (by omega)
          have hgl : g < w1.heap.size := HLT.out g rfl
          have hc1 := HLO.out.cell (j := k) (u := .int .i64 (pat L k)) (by rw [List.getElem?_map, pat_get (by rw [HLF.out.2.1]; exact hkN), List.getElem?_eq_getElem (by rw [HLF.out.2.1]; exact hkN)]; rfl)
          have i3 : (k : Int) < (l.length : Int) := by omega
          have hol2 : o.length < 17592186044416 := by omega
          clear htk
          generalize pat L k = x at *
          go_wp2_with fail
          refine HC.out.mono ?_
          rintro e w' ⟨rfl, rfl⟩
          go_wp2_with (first
            | (at_builtin; go_must (refine wpList_push _ rfl _ _ 22 3 8 elem_ints rfl w1.heap.size _ _ rfl (Own.alloc' HOW.out _) (.int .i64 k) ⟨wr.heap.size, 0, none⟩ 1 rfl (cell_new1 _ _ _) rfl (by rw [List.length_map]; omega) (by rw [List.length_map]; unfold maxLen; omega) (by simp; exact Nat.le_succ_of_le HSZ.out) ?_); intro v3 w3 hown3 hbel3; have HO3 := Lib.hid hown3; have HB3 : Hid (Below w1.heap.size wr w3) := ((Below.refl _ _).alloc HSZ.out _).trans hbel3; have HL3 := Lib.hid (HLO.out.belowLt HB3.out HLT.out); have hc3 : w3.cell? ⟨g, k, none⟩ = some (.int .i64 x) := (HB3.out.cell (p := ⟨g, k, none⟩) hgl).trans hc1; have hf3 := HL3.out.frozen k; clear hown3 hbel3)
            | fail)
          go_roundw
          case rel =>
            refine ⟨j + 1, L.set k 0, o ++ [(k : Int)], by omega, by go_num, HLF2.out, by simp; omega, HX.out, ?_, ?_, ?_, ?_⟩
            · rw [List.map_append]; exact HO3.out.far (p := ⟨g, k, none⟩) hgl _
            · rw [List.map_set]; exact HL3.out.set k (.int .i64 0)
            · exact (HB.out.trans (HB3.out.mono HB1.out.size)).setCell (p := ⟨g, k, none⟩) hg0 _
            · simp; exact Nat.le_trans HSZ.out HB3.out.size
          case measure => simp [intOf]; omega
      · have i2 : ¬ (j : Int) < (ns.length : Int) := by omega
        have HX : Hid (drawR l ns [] = (o, 0)) := by unfold Hid; rw [hdr.out, List.drop_eq_nil_of_le (by omega)]; rfl
        obtain ⟨A9, c9, rfl, hc9, hsg⟩ := HOW.out.res
        have HW9 := Lib.hid hsg
        have HC9 := Lib.hid hc9
        clear hsg hc9 hdr
        rw [List.length_map]
        go_wp2_with fail
        go_ret2
        rw [HL.out, HX.out]
        have h2 := HC9.out
        rw [List.length_map] at h2
        exact ⟨A9, c9, rfl, h2, HW9.out, HB.out⟩
theorem own_one (w : World) (e : TypeId) (u : Value) : Own (w.alloc (.cells #[u] e)) w.heap.size e (.slice (some ⟨w.heap.size, 0, none⟩) 1 1) [u] :=
  ⟨rfl, .inr ⟨w.heap.size, 1, #[u], rfl, Nat.le_refl _, Blk.new w e #[u], Nat.le_refl _, by unfold maxLen; omega, rfl, rfl⟩⟩
theorem fdrawR_len (l ns : List Int) : (fdrawR l ns).1.length ≤ ns.length := by
  unfold fdrawR
  split
  · have := drawR_len ns l []; simpa using this
  · exact Nat.zero_le _
set_option maxRecDepth 20000 in
set_option maxHeartbeats 4000000 in
theorem fens_law (l ns SL DL : List Int) (n SE P1 P2 DE : Int) (A C : Option Addr) (c d : Nat) (W : Bool) (w : World) (hp : Seg w w.heap.size A (l.map (.int .i64))) (hq : Seg w w.heap.size C (ns.map (.int .i64))) (hD : DL.length ≤ 9223372036854775807)
    (hf : W = false → SL = [] ∧ SE = 2) (hok : W = true → SL = tab (pre l) (l.length + 1) ∧ SE = 0 ∧ l.length ≤ 400 ∧ ∀ i, i ≤ l.length → 0 ≤ pre l i ∧ pre l i ≤ 429496729600)
    (h1 : ∀ u, Seg u u.heap.size A (l.map (.int .i64)) → Calls Try.prog 57 #[.slice A l.length c] u fun e w' => SOut u w' e SL SE)
    (h2 : ∀ u, Seg u u.heap.size A (l.map (.int .i64)) → Calls Try.prog 58 #[.slice A l.length c, .int .i64 n] u fun e w' => e = .returned (.tuple #[.int .i64 P1, .int .i64 P2]) ∧ Below u.heap.size u w')
    (h3 : ∀ u, Seg u u.heap.size A (l.map (.int .i64)) → Calls Try.prog 59 #[.slice A l.length c, .int .i64 n] u fun e w' => e = .returned (.tuple #[.int .i64 P1, .int .i64 P2]) ∧ u = w')
    (h4 : ∀ u, Seg u u.heap.size A (l.map (.int .i64)) → Seg u u.heap.size C (ns.map (.int .i64)) → Calls Try.prog 60 #[.slice A l.length c, .slice C ns.length d] u fun e w' => SOut u w' e DL DE)
    (h5 : ∀ u, Seg u u.heap.size A (l.map (.int .i64)) → Seg u u.heap.size C (ns.map (.int .i64)) → Calls Try.prog 61 #[.slice A l.length c, .slice C ns.length d] u fun e w' => SOut u w' e DL DE)
    (h6 : ∀ u, Seg u u.heap.size A (l.map (.int .i64)) → Calls Try.prog 62 #[.slice A l.length c] u fun e w' => e = .returned (.bool (!W)) ∧ u = w') :
    Calls Try.prog 10 #[.slice A l.length c, .int .i64 n, .slice C ns.length d] w fun e w' => e = .returned (.bool true) ∧ Below w.heap.size w w' := by
  have HP0 := Lib.hid hp
  have HQ0 := Lib.hid hq
  have H1 := Lib.hid h1
  have H2 := Lib.hid h2
  have H3 := Lib.hid h3
  have H4 := Lib.hid h4
  have H5 := Lib.hid h5
  have H6 := Lib.hid h6
  have b1 : (P1 != P1) = false := by simp
  have b2 : (P2 != P2) = false := by simp
  have b3 : (DE != DE) = false := by simp
  clear hp hq h1 h2 h3 h4 h5 h6
  cases W with
  | false =>
    obtain ⟨rfl, rfl⟩ := hf rfl
    clear hf hok
    go_enter Try.func10, Try.ntmps10
    go_wp2_with fail
    refine (H1.out _ HP0.out).mono ?_
    rintro e w1 ⟨A1, k1, rfl, _, hsg, hb⟩
    have HB1 := Lib.hid hb
    have HP1 := Lib.hid (HP0.out.on hb)
    have HQ1 := Lib.hid (HQ0.out.on hb)
    have HR1 := Lib.hid hsg
    clear hsg hb
    go_wp2_with fail
    refine (H2.out _ HP1.out).mono ?_
    rintro e w2 ⟨rfl, hb⟩
    have HB2 : Hid (Below w.heap.size w w2) := HB1.out.trans (hb.mono HB1.out.size)
    have HP2 := Lib.hid (HP1.out.on hb)
    have HQ2 := Lib.hid (HQ1.out.on hb)
    have HR2 := Lib.hid (HR1.out.on hb)
    clear hb
    go_wp2_with fail
    refine (H3.out _ HP2.out).mono ?_
    rintro e w' ⟨rfl, rfl⟩
    go_wp2_with fail
    refine (H4.out _ HP2.out HQ2.out).mono ?_
    rintro e w3 ⟨A3, k3, rfl, _, hsg, hb⟩
    have HB3 : Hid (Below w.heap.size w w3) := HB2.out.trans (hb.mono HB2.out.size)
    have HP3 := Lib.hid (HP2.out.on hb)
    have HQ3 := Lib.hid (HQ2.out.on hb)
    have HR3 := Lib.hid (HR2.out.on hb)
    have HD3 := Lib.hid hsg
    clear hsg hb
    go_wp2_with fail
    refine (H5.out _ HP3.out HQ3.out).mono ?_
    rintro e w4 ⟨A4, k4, rfl, _, hsg, hb⟩
    have HB4 : Hid (Below w.heap.size w w4) := HB3.out.trans (hb.mono HB3.out.size)
    have HP4 := Lib.hid (HP3.out.on hb)
    have HR4 := Lib.hid (HR3.out.on hb)
    have HD4 := Lib.hid (HD3.out.on hb)
    have HE4 := Lib.hid hsg
    clear hsg hb
    go_wp2_with fail
    refine (eq_same DL A3 A4 k3 k4 _ HD4.out HE4.out hD).mono ?_
    rintro e w' ⟨rfl, n7, rfl⟩
    have HB7 : Hid (Below w.heap.size w (w4.drewN n7)) := below_drewN HB4.out n7
    have HP7 : Hid (Seg (w4.drewN n7) (w4.drewN n7).heap.size A (l.map (.int .i64))) := HP4.out
    have HR7 : Hid (Seg (w4.drewN n7) (w4.drewN n7).heap.size A1 ((([] : List Int)).map (.int .i64))) := HR4.out
    generalize w4.drewN n7 = w7 at *
    go_wp2_with fail
    refine (H6.out _ HP7.out).mono ?_
    rintro e w' ⟨rfl, rfl⟩
    go_wp2_with fail
    go_ret
    exact ⟨rfl, HB7.out⟩
  | true =>
    obtain ⟨hSL, rfl, hl, hpb⟩ := hok rfl
    have HSL := Lib.hid hSL
    have HPB := Lib.hid hpb
    clear hf hok hSL hpb
    go_enter Try.func10, Try.ntmps10
    go_wp2_with fail
    refine (H1.out _ HP0.out).mono ?_
    rintro e w1 ⟨A1, k1, rfl, _, hsg, hb⟩
    have HB1 := Lib.hid hb
    have HP1 := Lib.hid (HP0.out.on hb)
    have HQ1 := Lib.hid (HQ0.out.on hb)
    have HR1 := Lib.hid hsg
    clear hsg hb
    go_wp2_with fail
    refine (H2.out _ HP1.out).mono ?_
    rintro e w2 ⟨rfl, hb⟩
    have HB2 : Hid (Below w.heap.size w w2) := HB1.out.trans (hb.mono HB1.out.size)
    have HP2 := Lib.hid (HP1.out.on hb)
    have HQ2 := Lib.hid (HQ1.out.on hb)
    have HR2 := Lib.hid (HR1.out.on hb)
    clear hb
    go_wp2_with fail
    refine (H3.out _ HP2.out).mono ?_
    rintro e w' ⟨rfl, rfl⟩
    go_wp2_with fail
    refine (H4.out _ HP2.out HQ2.out).mono ?_
    rintro e w3 ⟨A3, k3, rfl, _, hsg, hb⟩
    have HB3 : Hid (Below w.heap.size w w3) := HB2.out.trans (hb.mono HB2.out.size)
    have HP3 := Lib.hid (HP2.out.on hb)
    have HQ3 := Lib.hid (HQ2.out.on hb)
    have HR3 := Lib.hid (HR2.out.on hb)
    have HD3 := Lib.hid hsg
    clear hsg hb
    go_wp2_with fail
    refine (H5.out _ HP3.out HQ3.out).mono ?_
    rintro e w4 ⟨A4, k4, rfl, _, hsg, hb⟩
    have HB4 : Hid (Below w.heap.size w w4) := HB3.out.trans (hb.mono HB3.out.size)
    have HP4 := Lib.hid (HP3.out.on hb)
    have HR4 := Lib.hid (HR3.out.on hb)
    have HD4 := Lib.hid (HD3.out.on hb)
    have HE4 := Lib.hid hsg
    clear hsg hb
    go_wp2_with fail
    refine (eq_same DL A3 A4 k3 k4 _ HD4.out HE4.out hD).mono ?_
    rintro e w' ⟨rfl, n7, rfl⟩
    have HB7 : Hid (Below w.heap.size w (w4.drewN n7)) := below_drewN HB4.out n7
    have HP7 : Hid (Seg (w4.drewN n7) (w4.drewN n7).heap.size A (l.map (.int .i64))) := HP4.out
    have HR7 : Hid (Seg (w4.drewN n7) (w4.drewN n7).heap.size A1 ((SL).map (.int .i64))) := HR4.out
    generalize w4.drewN n7 = w7 at *
    go_wp2_with fail
    refine (H6.out _ HP7.out).mono ?_
    rintro e w' ⟨rfl, rfl⟩
    go_wp2_with fail
    go_loopw [17, 80] (fun s17 s80 wr => ∃ (j g cc : Nat), j ≤ l.length ∧ s80 = .int .i64 j ∧ s17 = .slice (some ⟨g, 0, none⟩) (j + 1) cc ∧ Own wr w7.heap.size 3 (.slice (some ⟨g, 0, none⟩) (j + 1) cc) ((tab (pre l) (j + 1)).map (.int .i64)) ∧ Below w7.heap.size w7 wr) (fun _ s80 _ => l.length - (intOf s80).toNat)
    case atStart => exact ⟨0, w7.heap.size, 1, Nat.zero_le _, rfl, rfl, own_one w7 3 (.int .i64 0), (Below.refl _ _).alloc (Nat.le_refl _) _⟩
    case round =>
      obtain ⟨j, g, cc, hj, rfl, rfl, hown, hbel⟩ := hrel
      have HOW := Lib.hid hown
      have HB := Lib.hid hbel
      have HSZ := Lib.hid hbel.size
      clear hown hbel
      by_cases hlt : j < l.length
      · have i2 : (j : Int) < (l.length : Int) := by omega
        obtain ⟨ad, rfl, _, hcell⟩ := (HP7.out.below HB.out).pat hlt
        have hc2 := HOW.out.cell (j := j) (u := .int .i64 (pre l j)) (by rw [List.getElem?_map, tab_get (Nat.lt_succ_self j)]; rfl)
        have hp := HPB.out j hj
        have hp1 := HPB.out (j + 1) hlt
        have HPS : Hid (pre l (j + 1) = pre l j + pat l j) := rfl
        rw [HPS.out] at hp1
        have HTS := Lib.hid (tab_succ (pre l) (j + 1))
        generalize pat l j = x at *
        generalize hpp : pre l j = p at *
        have HPP := Lib.hid hpp
        clear hpp
        go_wp2_with (first
          | (at_builtin; go_must (refine wpList_push _ rfl _ _ 22 3 8 elem_ints rfl w7.heap.size _ _ rfl (Own.alloc' HOW.out _) (.int .i64 (p + x)) ⟨wr.heap.size, 0, none⟩ 1 rfl (cell_new1 _ _ _) rfl (by rw [List.length_map, tab_len]; omega) (by rw [List.length_map, tab_len]; unfold maxLen; omega) (by simp; exact Nat.le_succ_of_le HSZ.out) ?_); intro v3 w3 hown3 hbel3; have HO3 := Lib.hid hown3; have HB3 := Lib.hid hbel3; clear hown3 hbel3)
          | fail)
        have h := HO3.out
        rw [← HPS.out, show (List.map (Value.int .i64) (tab (pre l) (j + 1)) ++ [Value.int .i64 (pre l (j + 1))]) = (tab (pre l) (j + 1 + 1)).map (.int .i64) by rw [HTS.out, List.map_append]; rfl] at h
        obtain ⟨A9, c9, rfl, hc9, h2⟩ := h.res2
        rw [List.length_map, tab_len] at h2
        obtain ⟨g2, rfl, hg2⟩ := h2.at_ (by omega)
        have H2 := Lib.hid h2
        rw [List.length_map, tab_len]
        clear h h2 hc9 HO3
        go_roundw
        case rel => exact ⟨j + 1, g2, c9, by omega, by go_num, rfl, H2.out, (HB.out.alloc HSZ.out _).trans HB3.out⟩
        case measure => simp [intOf]; omega
      · have i2 : ¬ (j : Int) < (l.length : Int) := by omega
        obtain rfl : j = l.length := by omega
        have HSL2 := Lib.hid (HR7.out.on HB.out)
        have HOS := HOW.out.seg
        rw [← HSL.out] at HOS
        have HO9 := Lib.hid HOS
        have HLEN : Hid (SL.length = l.length + 1) := by unfold Hid; rw [HSL.out, tab_len]
        have heq := fun u h1 h2 => eq_same SL A1 (some ⟨g, 0, none⟩) k1 cc u h1 h2 (by have := HLEN.out; omega)
        have HEQ : Hid (∀ u, Seg u u.heap.size A1 (SL.map (.int .i64)) → Seg u u.heap.size (some ⟨g, 0, none⟩) (SL.map (.int .i64)) → Calls Try.prog 19 #[.slice A1 SL.length k1, .slice (some ⟨g, 0, none⟩) (l.length + 1) cc] u fun e w' => e = .returned (.bool true) ∧ ∃ n, w' = u.drewN n) := by
          intro u h1 h2
          have h := heq u h1 h2
          rwa [show (Value.slice (some ⟨g, 0, none⟩) SL.length cc) = .slice (some ⟨g, 0, none⟩) (l.length + 1) cc by rw [HLEN.out]] at h
        clear heq HOS
        go_wp2_with fail
        refine (HEQ.out _ HSL2.out HO9.out).mono ?_
        rintro e w' ⟨rfl, n9, rfl⟩
        go_wp2_with fail
        go_ret
        exact ⟨rfl, below_drewN (HB7.out.trans (HB.out.mono HB7.out.size)) _⟩
theorem fwf_bd {n : Int} (h : (Lit.int .i64 n).wf = true) : -9223372036854775808 ≤ n ∧ n ≤ 9223372036854775807 := by
  simp [Lit.wf, IntKind.min, IntKind.max, IntKind.bits, IntKind.signed] at h; omega
theorem FenDraws_walk (A0 : Option Addr) (z0 : List Int) (c0 : Nat) (a1 : Int) (A2 : Option Addr) (z2 : List Int) (c2 : Nat) (w : World)
    (hc0 : z0.length ≤ c0) (hm0 : c0 ≤ maxLen) (_hw0 : ∀ n, n ∈ z0 → (Lit.int .i64 n).wf = true) (s0 : Seg w w.heap.size A0 (z0.map (.int .i64))) (w1 : (Lit.int .i64 a1).wf = true)
    (hc2 : z2.length ≤ c2) (hm2 : c2 ≤ maxLen) (hw2 : ∀ n, n ∈ z2 → (Lit.int .i64 n).wf = true) (s2 : Seg w w.heap.size A2 (z2.map (.int .i64))) (R2 : c2 * 8 ≤ 140737488351232) :
    Calls Try.prog 10 #[.slice A0 z0.length c0, .int .i64 a1, .slice A2 z2.length c2] w fun e w' => e = .returned (.bool true) ∧ Below w.heap.size w w' := by
  unfold maxLen at hm0
  have m0 : z0.length ≤ 9223372036854775807 := by omega
  have m2 : z2.length < 17592186044416 := by omega
  have hn : a1 ≤ 9223372036854775807 := (fwf_bd w1).2
  refine fens_law z0 z2 (sumsL z0) (fdrawR z0 z2).1 a1 (sumsE z0) (pickR z0 a1).1 (pickR z0 a1).2 (fdrawR z0 z2).2 A0 A2 c0 c2 (wokB z0) w s0 s2 (by have := fdrawR_len z0 z2; omega) ?_ ?_ (fun u h => sums_any z0 A0 c0 u h m0) (fun u h => pick_any z0 a1 A0 c0 u h m0) (fun u h => ipick_any z0 a1 A0 c0 u h m0 hn) (fun u h h2 => draw_any z0 z2 A0 A2 c0 c2 u h h2 m0 m2) (fun u h h2 => idraw_any z0 z2 A0 A2 c0 c2 u h h2 m0 m2 (fun x hx => (fwf_bd (hw2 x hx)).2)) (fun u h => iwrong_any z0 A0 c0 u h m0)
  · intro h; unfold sumsL sumsE; rw [h]; exact ⟨rfl, rfl⟩
  · intro h
    refine ⟨by unfold sumsL; rw [if_pos h], by unfold sumsE; rw [if_pos h], (wok_at h).1, fun i hi => pre_le h hi⟩
end Go.Proofs.Ytmcbkjepjijfjaa
