/- Sums by a tree: draws, one behind the other, walked twice. No condition. -/
import Derived.Test.YtmcbkjepjijfjaaFenP
import Derived.Test.YtmcbkjepjijfjaaApp2
namespace Go.Proofs.Ytmcbkjepjijfjaa
open Go.ChangeShapes Go.WideShapes Go.ChangeAt Go.RowKit
set_option linter.unusedVariables false

theorem Own.belowLt {w w' : World} {base B : Nat} {e : TypeId} {v : Value} {xs : List Value} (h : Own w base e v xs) (hb : Below B w w') (hB : ∀ g, v.ownBlock = some g → g < B) : Own w' base e v xs := by
  obtain ⟨h1, h2⟩ := h
  refine ⟨h1, ?_⟩
  rcases h2 with h2 | ⟨g, cap, cur, hv, hg, hh, r⟩
  · exact Or.inl h2
  · exact Or.inr ⟨g, cap, cur, hv, hg, by rw [hb.block g (hB g (by rw [hv]; rfl))]; exact hh, r⟩
def fdrawR (l nums : List Int) : List Int × Int := if wokB l = true then drawR l nums [] else ([], 2)
theorem drop_pat {l : List Int} {j : Nat} (h : j < l.length) : l.drop j = pat l j :: l.drop (j + 1) := by rw [List.drop_eq_getElem_cons h, pat_get h]
/-- Some weights have become 0. -/
def Lefts (l L : List Int) : Prop := wokB L = true ∧ L.length = l.length ∧ ∀ i, pat L i = pat l i ∨ pat L i = 0
theorem Lefts.set {l L : List Int} (h : Lefts l L) {k : Nat} (hk : k < l.length) : Lefts l (L.set k 0) := by
  obtain ⟨h1, h2, h3⟩ := h
  refine ⟨wok_set h1 (by omega), by rw [List.length_set, h2], fun i => ?_⟩
  rw [pat_set L k i 0 (by omega)]
  split
  · exact .inr rfl
  · exact h3 i
theorem lefts_add {l L : List Int} (h : Lefts l L) {k : Nat} (hk : k < l.length) (hp : pat L k ≠ 0) : addS (pre L) k (-(pat l k)) = pre (L.set k 0) := by
  obtain ⟨h1, h2, h3⟩ := h
  funext i
  rw [pre_set L k (by omega) i]
  unfold addS
  have := (h3 k).resolve_right hp
  rw [← this]
  split <;> omega
set_option maxRecDepth 20000 in
set_option maxHeartbeats 4000000 in
theorem draw_any (l ns : List Int) (A C : Option Addr) (c d : Nat) (w : World) (hs : Seg w w.heap.size A (l.map (.int .i64))) (ht : Seg w w.heap.size C (ns.map (.int .i64))) (hm : l.length ≤ 9223372036854775807) (hm2 : ns.length < 17592186044416) :
    Calls Try.prog 60 #[.slice A l.length c, .slice C ns.length d] w fun e w' => SOut w w' e (fdrawR l ns).1 (fdrawR l ns).2 := by
  have HS := Lib.hid hs
  have HNS := Lib.hid ht
  have hw := fwrong_any l A c w hs hm
  cases hg : wokB l with
  | false =>
    rw [hg] at hw
    have HW := Lib.hid hw
    have HL : Hid (fdrawR l ns = ([], 2)) := by unfold fdrawR Hid; rw [hg]; rfl
    clear hw hg hs ht
    go_enter Try.func60, Try.ntmps60
    go_wp2_with fail
    refine HW.out.mono ?_
    rintro e w' ⟨rfl, rfl⟩
    go_wp2_with fail
    go_ret2
    rw [HL.out]
    exact SOut.nil_ (Below.refl _ _)
  | true =>
    rw [hg] at hw
    have HW := Lib.hid hw
    have HL : Hid (fdrawR l ns = drawR l ns []) := by unfold fdrawR Hid; rw [hg]; rfl
    have HBU := Lib.hid (build_any l A c w hs hg)
    have hl := (wok_at hg).1
    have HWA := Lib.hid (wok_at hg).2
    have HLE : Hid (Lefts l l) := ⟨hg, rfl, fun i => .inl rfl⟩
    clear hw hg hs ht
    go_enter Try.func60, Try.ntmps60
    go_wp2_with fail
    refine HW.out.mono ?_
    rintro e w' ⟨rfl, rfl⟩
    go_wp2_with fail
    refine HBU.out.mono ?_
    rintro e w1 ⟨rfl, ⟨T0, ht, hrow⟩, hb⟩
    have HT0 := Lib.hid ht
    have HR0 := Lib.hid hrow
    have HB1 := Lib.hid hb
    have HLT := Lib.hid hrow.lt
    clear ht hrow hb
    go_wp2_with fail
    go_loopw [7, 17] (fun s7 s17 wr => ∃ (j : Nat) (L o : List Int), j ≤ ns.length ∧ s17 = .int .i64 j ∧ Lefts l L ∧ o.length ≤ j ∧ Hid (drawR l ns [] = drawR L (ns.drop j) o) ∧ Own wr w1.heap.size 3 s7 (o.map (.int .i64)) ∧ (∃ T, Tree (pre L) T l.length ∧ wr.rowIs w.heap.size 3 (l.length + 1) (fun i => .int .i64 (T i))) ∧ Below w.heap.size w wr ∧ w1.heap.size ≤ wr.heap.size) (fun _ s17 _ => ns.length - (intOf s17).toNat)
    case atStart => exact ⟨0, l, [], Nat.zero_le _, rfl, HLE.out, Nat.le_refl _, rfl, Own.none_, ⟨T0, HT0.out, HR0.out⟩, HB1.out, Nat.le_refl _⟩
    case round =>
      clear HT0 HR0
      obtain ⟨j, L, o, hj, rfl, hlf, hol, hdr, hown, ⟨T, htr, hrow⟩, hbel, hsz⟩ := hrel
      have HLF := Lib.hid hlf
      have HOW := Lib.hid hown
      have HT := Lib.hid htr
      have HR := Lib.hid hrow
      have HB := Lib.hid hbel
      have HSZ := Lib.hid hsz
      clear hlf hown htr hrow hbel hsz
      by_cases hlt : j < ns.length
      · have i2 : (j : Int) < (ns.length : Int) := by omega
        obtain ⟨ad, rfl, _, hcell⟩ := (HNS.out.below HB.out).pat hlt
        have HDR := Lib.hid hdr.out
        rw [drop_pat hlt, drawR] at HDR
        have hLN := HLF.out.2.1
        have HMO := Lib.hid (wok_mono HLF.out.1)
        have HWL := Lib.hid (wok_at HLF.out.1).2
        have HPL := Lib.hid (fun i hi => pre_le (l := L) HLF.out.1 (i := i) hi)
        rw [hLN] at HDR HMO HWL HPL
        have hsb := HPL.out l.length (Nat.le_refl _)
        have HSU := Lib.hid (tsum_any (pre L) T l.length l.length w.heap.size wr hl (Nat.le_refl _) HR.out HT.out)
        have hdl := drawR_len
        clear hdl hdr hLN
        generalize hnn : pat ns j = n at *
        by_cases hneg : n < 0
        · have HX : Hid (drawR l ns [] = ([], 3)) := by unfold Hid; rw [HDR.out, if_pos (.inl hneg)]
          go_wp2_with fail
          go_ret2
          rw [HL.out, HX.out]
          exact SOut.nil_ HB.out
        · have i1 : ¬ n < 0 := by omega
          by_cases hge : pre L l.length ≤ n
          · have HX : Hid (drawR l ns [] = ([], 3)) := by unfold Hid; rw [HDR.out, if_pos (.inr hge)]
            generalize pre L l.length = s at *
            generalize l.length + 1 = M at *
            go_wp2_with fail
            refine HSU.out.mono ?_
            rintro e w' ⟨rfl, rfl⟩
            go_wp2_with fail
            go_ret2
            rw [HL.out, HX.out]
            exact SOut.nil_ HB.out
          · have htk := topk_ok (l := L) (n := n) (by omega) l.length (by omega)
            have HX : Hid (drawR l ns [] = drawR (L.set (topk L n l.length) 0) (ns.drop (j + 1)) (o ++ [((topk L n l.length : Nat) : Int)])) := by unfold Hid; rw [HDR.out, if_neg (by omega)]
            have HF := Lib.hid (tfind_any (pre L) T l.length (topk L n l.length) w.heap.size n wr hl htk.1 HR.out HT.out HMO.out htk.2.1 htk.2.2)
            generalize topk L n l.length = k at *
            have hpos : pat L k ≠ 0 := by
              have h1 := htk.2.1
              have h2 := htk.2.2
              rw [pre] at h2
              omega
            have hadd := lefts_add HLF.out htk.1 hpos
            have HLF2 := Lib.hid (HLF.out.set htk.1)
            have hxk := HWA.out k htk.1
            obtain ⟨ae, rfl, _, hcell2⟩ := (HS.out.below HB.out).pat htk.1
            have HAD : Hid (∀ u, u.rowIs w.heap.size 3 (l.length + 1) (fun i => .int .i64 (T i)) → Calls Try.prog 89 #[.slice (some ⟨w.heap.size, 0, none⟩) (l.length + 1 : Nat) (l.length + 1 : Nat), .int .i64 k, .int .i64 (-(pat l k))] u fun e w' => e = .returned (.tuple #[]) ∧ (∃ T', Tree (pre (L.set k 0)) T' l.length ∧ w'.rowIs w.heap.size 3 (l.length + 1) (fun i => .int .i64 (T' i))) ∧ u.grownBy w' (some w.heap.size)) := by
              intro u hu
              have h := tadd_any (pre L) T l.length k w.heap.size (-(pat l k)) u hl htk.1 (by omega) (by omega) hu HT.out (by rw [hadd]; exact fun i hi => pre_le HLF2.out.1 (by rw [HLF2.out.2.1]; exact hi))
              rw [hadd] at h
              exact h
            have i3 : (k : Int) < (l.length : Int) := by omega
            have hol2 : o.length < 17592186044416 := by omega
            clear htk hpos hadd HMO HWL HPL HT HDR
            generalize pat l k = x at *
            generalize pre L l.length = s at *
            have HRM := HR
            generalize hMM : l.length + 1 = M at *
            have HMM := Lib.hid hMM
            clear hMM
            go_wp2_with fail
            refine HSU.out.mono ?_
            rintro e w' ⟨rfl, rfl⟩
            go_wp2_with fail
            refine HF.out.mono ?_
            rintro e w' ⟨rfl, rfl⟩
            go_wp2_with (first
              | (at_builtin; go_must (refine wpList_push _ rfl _ _ 22 3 8 elem_ints rfl w1.heap.size _ _ rfl (Own.alloc' HOW.out _) (.int .i64 k) ⟨wr.heap.size, 0, none⟩ 1 rfl (cell_new1 _ _ _) rfl (by rw [List.length_map]; omega) (by rw [List.length_map]; unfold maxLen; omega) (by simp; exact Nat.le_succ_of_le HSZ.out) ?_); intro v3 w3 hown3 hbel3; have HO3 := Lib.hid hown3; have HB3 : Hid (Below w1.heap.size wr w3) := ((Below.refl _ _).alloc HSZ.out _).trans hbel3; have hc3 : w3.cell? (ae.add k) = some (.int .i64 x) := (HB3.out.cell (by rw [addr_block]; have := HB1.out.size; omega)).trans hcell2; clear hown3 hbel3)
              | fail)
            refine (HAD.out _ (rowIs_below HR.out HB3.out HLT.out)).mono ?_
            rintro e w4 ⟨rfl, ⟨T', ht', hr'⟩, hg'⟩
            have HT4 := Lib.hid ht'
            have HR4 := Lib.hid hr'
            have HO4 := Lib.hid (HO3.out.grown hg' HLT.out)
            have HB4 : Hid (Below w.heap.size w w4) := (HB.out.trans (HB3.out.mono HB1.out.size)).grown hg' (Nat.le_trans HB.out.size HB3.out.size) (fun q hq => by injection hq with hq; omega)
            have HSZ4 : Hid (w1.heap.size ≤ w4.heap.size) := Nat.le_trans HSZ.out (Nat.le_trans HB3.out.size hg'.size)
            clear ht' hr' hg' hc3
            go_wp2_with fail
            go_roundw
            case rel =>
              refine ⟨j + 1, L.set k 0, o ++ [(k : Int)], by omega, by go_num, HLF2.out, by simp; omega, HX.out, ?_, ⟨T', HT4.out, HR4.out⟩, HB4.out, HSZ4.out⟩
              rw [List.map_append]; exact HO4.out
            case measure => simp [intOf]; omega
      · have i2 : ¬ (j : Int) < (ns.length : Int) := by omega
        have HX : Hid (drawR l ns [] = (o, 0)) := by unfold Hid; rw [hdr.out, List.drop_eq_nil_of_le (by omega)]; rfl
        obtain ⟨A9, c9, rfl, hc9, hsg⟩ := HOW.out.res
        have HW9 := Lib.hid hsg
        have HC9 := Lib.hid hc9
        clear hsg hc9 hdr
        rw [List.length_map]
        go_wp2_with fail
        go_ret2
        rw [HL.out, HX.out]
        have h2 := HC9.out
        rw [List.length_map] at h2
        exact ⟨A9, c9, rfl, h2, HW9.out, HB.out⟩
end Go.Proofs.Ytmcbkjepjijfjaa
