/- The reference's UNext, walked. No condition but the lists' own size. -/
import Derived.Test.YtaehehoeidnidaaBayN
import Derived.Test.YtaehehoeidnidaaBayV
import Derived.Deep.DeepCutAuto
namespace Go.Proofs.Ytaehehoeidnidaa
open Go.ChangeShapes Go.WideShapes Go.ChangeAt Go.RowKit
set_option linter.unusedVariables false

theorem unext_bad (A C D : Option Addr) (prior : List Int) (l : List Rw) (seen : List Int) (c d f : Nat) (w : World) (hp : Seg w w.heap.size A (prior.map (.int .i64))) (hl : RowsOk w w.heap.size C l) (hs : Seg w w.heap.size D (seen.map (.int .i64)))
    (hm : prior.length ≤ 9223372036854775807) (hm2 : l.length ≤ 9223372036854775807) (hm3 : seen.length ≤ 9223372036854775807) (he : (bsee prior (nums l) seen).2 ≠ 0) :
    Calls Try.prog 36 #[.slice A prior.length c, .slice C l.length d, .slice D seen.length f] w fun e w' => e = .returned (.tuple #[.slice none 0 0, .int .i64 (bsee prior (nums l) seen).2]) ∧ Below w.heap.size w w' := by
  have HW := Lib.hid (usee_any A C D prior l seen c d f w hp hl hs hm hm2 hm3)
  have b0 : ((bsee prior (nums l) seen).2 != 0) = true := by simp [he]
  generalize (bsee prior (nums l) seen).2 = z at *
  generalize (bsee prior (nums l) seen).1 = P at *
  clear hp hl hs
  go_enter Try.func36, Try.ntmps36
  go_wp2_with fail
  refine HW.out.mono ?_
  rintro e w1 ⟨A1, c1, rfl, hc1, hs1, hb⟩
  have HB := Lib.hid hb
  clear hc1 hs1 hb
  go_wp2_with fail
  go_ret2
  exact ⟨rfl, HB.out⟩
set_option maxRecDepth 20000 in
set_option maxHeartbeats 8000000 in
theorem unext_ok (A C D : Option Addr) (prior : List Int) (l : List Rw) (seen : List Int) (c d f : Nat) (w : World) (hp : Seg w w.heap.size A (prior.map (.int .i64))) (hl : RowsOk w w.heap.size C l) (hs : Seg w w.heap.size D (seen.map (.int .i64)))
    (hm : prior.length ≤ 9223372036854775807) (hm2 : l.length ≤ 9223372036854775807) (hm3 : seen.length ≤ 9223372036854775807) (hz8 : RowsSz l) (he : (bsee prior (nums l) seen).2 = 0) :
    Calls Try.prog 36 #[.slice A prior.length c, .slice C l.length d, .slice D seen.length f] w fun e w' => SOut w w' e (lowL (bsums (bsee prior (nums l) seen).1 (nums l) ((nums l).headD []).length)) 0 := by
  have HW := Lib.hid (usee_any A C D prior l seen c d f w hp hl hs hm hm2 hm3)
  have HSO := Lib.hid (sok_of he)
  rw [he] at HW
  generalize (bsee prior (nums l) seen).1 = P at *
  obtain ⟨n0, hn0⟩ : ∃ n, n = ((nums l).headD []).length := ⟨_, rfl⟩
  rw [← hn0]
  have hok := HSO.out.ok
  have hll : prior.length = l.length := by have := hok.len; simpa [nums] using this
  have hp1 := hok.pos
  have hp8 := hok.le
  obtain ⟨ad, rfl, had, hc0, hr0⟩ := hl.row (k := 0) (by omega)
  have hrow : Hid (∀ k (h : k < l.length), l[k].2.1.length = n0) := fun k h => by
    have := hok.row k (by simp [nums]; exact h)
    rw [hn0, ← this]; simp [nums]
  obtain ⟨⟨A0, z0, c0⟩, hx0⟩ : ∃ x : Rw, x = l[0] := ⟨_, rfl⟩
  have hz0 : z0.length = n0 := by have := hrow.out 0 (by omega); rw [← hx0] at this; exact this
  have hz8' := hz8 _ (List.getElem_mem (show 0 < l.length by omega))
  rw [← hx0] at hc0 hr0 hz8'
  have hcc : w.cell? ad = some (.slice A0 z0.length c0) := hc0
  rw [hz0] at hcc
  have HC0 := Lib.hid hcc
  have HADB := Lib.hid had
  have HL := Lib.hid hl
  have HSZ := Lib.hid (And.intro hll (And.intro hp1 hp8))
  have i3 : (0 : Int) < (l.length : Int) := by omega
  have hcase : Hid (n0 * 8 ≤ 140737488355328) := by
    have h1 : z0.length ≤ c0 := hr0.2.1
    have h2 : c0 * 8 ≤ 140737488351232 := hz8'
    unfold Hid; omega
  obtain ⟨Bs, hBs⟩ : ∃ Bs, Bs = bsums P (nums l) n0 := ⟨_, rfl⟩
  rw [← hBs]
  have HBL : Hid (Bs.length = n0) := by unfold Hid; rw [hBs]; unfold bsums; rw [tab_len]
  have HBA : Hid (∀ s, s < n0 → pat Bs s = psum P (nums l) s P.length) := fun s h => by rw [hBs]; exact pat_tab h
  clear hp hl hs hok hll hp1 hp8 hc0 hr0 hx0 hz0 hcc had hn0 hz8 hz8' hBs
  go_enter Try.func36, Try.ntmps36
  go_wp2_with fail
  refine HW.out.mono ?_
  rintro e w1 ⟨A1, c1, rfl, hc1, hs1, hb⟩
  have HB := Lib.hid hb
  have HPS := Lib.hid hs1
  have hc0 := (hb.cell (p := ad) HADB.out).trans HC0.out
  clear hc1 hs1 hb
  go_wp2_with fail
  --LOOK1
  clear hc0 i3
  go_loopw [10, 29] (fun s10 s29 wx => ∃ (s : Nat), s ≤ n0 ∧ s29 = .int .i64 s ∧ Hid (IRowO wx w1.heap.size s10 (Bs.take s)) ∧ Hid (Below w1.heap.size w1 wx)) (fun _ s29 _ => n0 - (intOf s29).toNat)
  case atStart => exact ⟨0, Nat.zero_le _, rfl, IRowO.nil_, Below.refl _ _⟩
  case round =>
    obtain ⟨s, hs, rfl, ho, hb⟩ := hrel
    obtain ⟨wo, hwo⟩ : ∃ wo : World, wo = wr := ⟨_, rfl⟩
    subst hwo
    obtain ⟨A9, c9, gs, rfl, hc9, hgl, hown, hgs⟩ := ho.out.open_
    have e9 : (Bs.take s).length = s := by rw [List.length_take]; have := HBL.out; omega
    rw [e9]
    have HBW : Hid (Below w.heap.size w wo) := HB.out.trans (hb.out.mono HB.out.size)
    by_cases hsl : s < n0
    · have i1 : (s : Int) < (n0 : Int) := by omega
      have HROW := Lib.hid (And.intro hgl (And.intro hown hgs))
      have HC9 := Lib.hid hc9
      have HS2 := Lib.hid (And.intro hs hsl)
      have HZ0 := Lib.hid (newZ1 wo)
      have HBK0 := Lib.hid (newBlk wo (.bool false) (.slice none 0 0))
      have HN0 : Hid (Below wo.heap.size wo (wo.alloc (.cells #[.bool false, .slice none 0 0] tI))) := (Below.refl _ _).alloc (Nat.le_refl _) _
      have HTK : Hid (Bs.take (s + 1) = Bs.take s ++ [pat Bs s]) := pat_take (by have := HBL.out; omega)
      have HSA := Lib.hid (HBA.out s hsl)
      have us : Hid (wrap64 ((s : Int) + 1) = ((s + 1 : Nat) : Int)) := bl64 (by have := hcase.out; omega)
      have HE9 := Lib.hid e9
      clear hgl hown hgs ho hc9 hs hsl e9
      go_wp2_with fail
      clear i1
      --LOOK2
      go_loopw [35] (fun s35 wx => ∃ (k : Nat), k ≤ P.length ∧ s35 = .int .i64 k ∧ Hid (IntZ wx wo.heap.size 0 (psum P (nums l) s k) ∧ IntBlk wx wo.heap.size) ∧ Hid (Below wo.heap.size wo wx)) (fun s35 _ => P.length - (intOf s35).toNat)
      case atStart => exact ⟨0, Nat.zero_le _, rfl, ⟨HZ0.out, HBK0.out⟩, HN0⟩
      case round =>
        obtain ⟨k, hk, rfl, hx, hbj⟩ := hrel
        clear HZ0 HBK0 HN0
        by_cases hkl : k < P.length
        · have hkl2 : k < l.length := by have := HSZ.out.1; have := HSO.out.len; omega
          have i1 : (k : Int) < (P.length : Int) := by omega
          have i2 : (k : Int) < (l.length : Int) := by omega
          have i4 : (s : Int) < (n0 : Int) := by have := HS2.out; omega
          obtain ⟨pd, rfl, _, hcp0⟩ := HPS.out.pat hkl
          have hcp1 := (hb.out.cell (block_lt hcp0)).trans hcp0
          have hcp := (hbj.out.cell (block_lt hcp1)).trans hcp1
          obtain ⟨ad2, e2, _, hcr0, hrr⟩ := HL.out.row hkl2
          injection e2 with e2
          subst e2
          obtain ⟨⟨A2, z, c2⟩, hx1⟩ : ∃ x : Rw, x = l[k] := ⟨_, rfl⟩
          have hzl := hrow.out k hkl2
          have hM : (nums l).getD k [] = l[k].2.1 := by rw [getD_row (by simp [nums]; exact hkl2)]; simp [nums]
          have hk2 : k < (nums l).length := by simp [nums]; exact hkl2
          have hzb : 0 ≤ pat l[k].2.1 s ∧ pat l[k].2.1 s ≤ 9 := by
            have := bok_pat HSO.out.ok hk2 s
            have eM : (nums l)[k] = l[k].2.1 := by simp [nums]
            rwa [eM] at this
          rw [← hx1] at hcr0 hrr hzl hM hzb
          have hzl' : z.length = n0 := hzl
          have hzb' : 0 ≤ pat z s ∧ pat z s ≤ 9 := hzb
          have hcr := (HBW.out.cell (block_lt hcr0)).trans hcr0
          have hcr' : wo.cell? (ad.add k) = some (.slice A2 z.length c2) := hcr
          rw [hzl'] at hcr'
          have HZS : Hid (Seg w w.heap.size A2 (z.map (.int .i64))) := hrr.1
          obtain ⟨zd, rfl, _, hcz0⟩ := HZS.out.pat (k := s) (by have := HS2.out; omega)
          have hcz := (HBW.out.cell (block_lt hcz0)).trans hcz0
          have hpb := HSO.out.small k hkl
          have HST0 : psum P (nums l) s k + pat P k * pat z s = psum P (nums l) s (k + 1) := by rw [psum, hM]
          have hbd := psum_le HSO.out s k hk
          have hmu := mul_small hpb.1 hpb.2 hzb'.1 hzb'.2
          have F3 : Hid (Fits (psum P (nums l) s k) 2) := fits_64 hbd.1 (by have := HSZ.out; have := HSO.out.len; omega)
          have F4 : Hid (Fits (pat P k * pat z s) 2) := fits_64 (by omega) (by omega)
          have F1 := Lib.hid (fits_64 hpb.1 (by omega))
          have F2 := Lib.hid (fits_64 hzb'.1 (by omega))
          obtain ⟨p, hpp⟩ : ∃ p, p = pat P k := ⟨_, rfl⟩
          obtain ⟨v, hvv⟩ : ∃ v, v = pat z s := ⟨_, rfl⟩
          rw [← hpp] at hcp hpb HST0 F1 F4
          rw [← hvv] at hcz hzb' HST0 F2 F4
          have HST := Lib.hid HST0
          have HNP := Lib.hid (fun u => newInt_any p u (by omega) (by omega))
          have HNV := Lib.hid (fun u => newInt_any v u (by omega) (by omega))
          have HK := Lib.hid (And.intro hk hkl)
          have uk : Hid (wrap64 ((k : Int) + 1) = ((k + 1 : Nat) : Int)) := bl64 (by have := HSZ.out; have := HSO.out.len; omega)
          have HXL := Lib.hid (And.intro (block_lt hcr') (block_lt hcz))
          have dr := (hbj.out.cell (block_lt hcr')).trans hcr'
          have dz := (hbj.out.cell (block_lt hcz)).trans hcz
          have HKEEP : Hid (∀ w', Below wo.heap.size wo w' → w'.cell? (ad.add k) = some (.slice (some zd) n0 c2) ∧ w'.cell? (zd.add s) = some (.int .i64 v) ∧ Below wo.heap.size wo w') := fun w' h => ⟨(h.cell HXL.out.1).trans hcr', (h.cell HXL.out.2).trans hcz, h⟩
          have HD : Hid (Below wo.heap.size wo wr.drew) := rb_drew hbj.out
          have HDC : Hid (Below wr.heap.size wr wr.drew) := rb_drew (Below.refl _ _)
          clear hcp0 hcp1 hcr0 hcr hrr hzl hM hx1 hzl' hzb hzb' hpb hbd hmu hpp hvv HST0 hk hkl hkl2 hk2 hcz0 hcr' hcz
          go_upto_region 12 with (fail)
          clear hcp i1
          --LOOK3
          go_region_held3 (fun w' => w'.cell? (ad.add k) = some (.slice (some zd) n0 c2) ∧ w'.cell? (zd.add s) = some (.int .i64 v) ∧ Below wo.heap.size wo w')
            (first
              | exact HKEEP.out _ HD.out
              | (go_split_ands; refine HKEEP.out _ ?_; first
                  | exact HX.out
                  | exact rb_alloc HX.out _
                  | exact rb_alloc HD.out _
                  | exact rb_alloc (by assumption) _))
            (first
              | (go_at_call 115; go_split_ands; refine (HNP.out _).mono ?_; rintro e u1 ⟨rfl, hp⟩; have HX := Lib.hid (rb_go (by first | exact rb_alloc HD.out _ | exact HD.out) hp.2.2.1); have HXC := Lib.hid (rb_go (w := wr) (by first | exact rb_alloc HDC.out _ | exact HDC.out) hp.2.2.1); have HN := Lib.hid hp; clear hp)
              | (go_at_call 115; go_split_ands; refine (HNV.out _).mono ?_; rintro e u2 ⟨rfl, hp⟩; have HX1 := HX; have HXC1 := HXC; have HX := Lib.hid (rb_go (by first | exact HX1.out | exact rb_alloc HX1.out _) hp.2.2.1); have HXC := Lib.hid (rb_go (w := wr) (by first | exact HXC1.out | exact rb_alloc HXC1.out _) hp.2.2.1); have HNN := Lib.hid hp; clear hp)
              | (go_at_call 55; go_split_ands; refine (add_any wo.heap.size wo.heap.size 0 _ 0 _ _ 2 _ (hx.out.2.below HXC.out) (hx.out.1.below HXC.out) HM.out.1 F3.out F4.out (by decide)).mono ?_
                 rintro r u4 ⟨rfl, hp⟩; rw [HST.out] at hp; have HS4 := Lib.hid hp; have HX3 := HX; have HX := Lib.hid (rb_put (w := wo) HX3.out hp.2.2 (Nat.le_refl _)); clear hp)
              | (go_at_call 56; go_split_ands; refine (mul_any _ _ 0 _ 0 p v 2 _
                  (by first | exact newBlk _ _ _ | exact (newBlk _ _ _).below HNN.out.2.2.1 | exact ((newBlk wr.drew (.bool false) (.slice none 0 0)).below HN.out.2.2.1).below HNN.out.2.2.1 | exact (((newBlk wr (.bool false) (.slice none 0 0)).drew).below HN.out.2.2.1).below HNN.out.2.2.1)
                  (by first | exact HN.out.1.below HNN.out.2.2.1 | exact (HN.out.1.alloc _).below HNN.out.2.2.1 | exact (HN.out.1.below HNN.out.2.2.1).alloc _ | simpa using HN.out.1.below HNN.out.2.2.1 | simpa using (HN.out.1.alloc _).below HNN.out.2.2.1)
                  (by first | exact HNN.out.1 | exact HNN.out.1.alloc _ | simpa using HNN.out.1 | exact (by simpa using HNN.out.1 : IntZ _ _ 0 v).alloc _) F1.out F2.out (by decide)).mono ?_
                 rintro r u3 ⟨rfl, hp⟩; have HM := Lib.hid hp; have HX2 := HX; have HXC2 := HXC; have HX := Lib.hid (rb_put (w := wo) (by first | exact HX2.out | exact rb_alloc HX2.out _) hp.2.2 (by first | exact hbj.out.size | exact HX1.out.size | exact HX2.out.size)); have HXC := Lib.hid (rb_put (w := wr) (by first | exact HXC2.out | exact rb_alloc HXC2.out _) hp.2.2 (by first | exact Nat.le_refl _ | exact HXC1.out.size | exact HXC2.out.size)); clear hp))
          all_goals
            clear dr dz i2 i4
            go_wp2_with fail
            go_roundw
            case rel => exact ⟨k + 1, by have := HK.out; omega, by first | rfl | rw [uk.out], ⟨HS4.out.1, HS4.out.2.1⟩, HX.out⟩
            case measure => (try rw [uk.out]); have := HK.out; simp [intOf]; omega
        · obtain rfl : k = P.length := by omega
          have hxx : Hid (IntZ wr wo.heap.size 0 (pat Bs s) ∧ IntBlk wr wo.heap.size) := by
            have h := hx.out
            rw [← HSA.out] at h
            exact h
          have e9 := HE9.out
          have HO2 : Hid (Own wr w1.heap.size tIP (.slice A9 (Bs.take s).length c9) (gs.map ptrV)) := HROW.out.2.1.below hbj.out (Nat.le_refl _)
          rw [e9] at HO2
          have HGS2 : Hid (∀ i, i < (Bs.take s).length → IntZ wr (gs.getD i 0) 0 (pat (Bs.take s) i) ∧ IntBlk wr (gs.getD i 0)) := fun i hi => ⟨(HROW.out.2.2 i hi).1.below hbj.out, (HROW.out.2.2 i hi).2.below hbj.out⟩
          have HPL : Hid (((gs.map ptrV).length + 1) * 8 ≤ 140737488355328 ∧ (gs.map ptrV).length + 1 ≤ maxLen) := by
            have h1 := HROW.out.1; have h2 := hcase.out; have h3 := HS2.out
            unfold Hid maxLen; rw [List.length_map, h1, e9]; omega
          have HBX : Hid (Below w1.heap.size w1 wr) := hb.out.trans (hbj.out.mono hb.out.size)
          have HLT : Hid (w1.heap.size ≤ (wr.alloc (.cells #[ptrV wo.heap.size] tIP)).heap.size) := by have := HBX.out.size; unfold Hid; simp; omega
          clear hk hkl hx e9
          go_wp2_with (first
            | (at_builtin; go_must (refine wpList_pushG _ rfl _ _ 127 tIP 8 elem_iptr rfl w1.heap.size _ _ rfl (Own.alloc' HO2.out _) (ptrV wo.heap.size) ⟨wr.heap.size, 0, none⟩ 1 rfl (cell_new1 _ _ _) rfl HPL.out.1 HPL.out.2 HLT.out ?_); intro v6 w6 hown6 hgb6; have HO6 := Lib.hid hown6; have HG6 := Lib.hid hgb6; clear hown6 hgb6)
            | fail)
          have HIR : Hid (IRowO w6 w1.heap.size v6 (Bs.take (s + 1))) := by
            unfold Hid
            rw [HTK.out]
            have h1 := HROW.out.1
            have hh := IRowO.push (w := wr.alloc (.cells #[ptrV wo.heap.size] tIP)) (w' := w6) (g := wo.heap.size) (v := .slice A9 s c9) (v' := v6) (l := Bs.take s) (gs := gs) (x := pat Bs s) h1 (Own.alloc' HO2.out _) (fun i hi => ⟨(HGS2.out i hi).1.alloc _, (HGS2.out i hi).2.alloc _⟩) (hxx.out.1.alloc _) (hxx.out.2.alloc _) HO6.out HG6.out
            exact hh
          have HB6 : Hid (Below w1.heap.size w1 w6) := Below.grown (rb_alloc HBX.out _) HG6.out HLT.out (fun q hq => HO2.out.block q hq)
          go_roundw
          case rel => exact ⟨s + 1, by have := HS2.out; omega, by first | rfl | rw [us.out], HIR, HB6⟩
          case measure => (try rw [us.out]); have := HS2.out; simp [intOf]; omega
    · obtain rfl : s = n0 := by omega
      have e8 : Bs.take s = Bs := List.take_of_length_le (by have := HBL.out; omega)
      rw [e8] at hgl hown hgs
      have hir := IRowO.row hgl hown hgs
      have h2l : ∀ x ∈ Bs, 0 ≤ x ∧ x ≤ 9223372036854775807 := fun x hx => by
        obtain ⟨q, hq, rfl⟩ := List.mem_iff_getElem.1 hx
        have hq2 : q < s := by have := HBL.out; omega
        rw [← pat_get hq, HBA.out q hq2]
        have h1 := psum_le HSO.out q P.length (Nat.le_refl _)
        have := HSZ.out; have := HSO.out.len; omega
      have HUL := ulow_any A9 gs Bs c9 wo hir h2l (by have := HBL.out; have := hcase.out; omega)
      rw [HBL.out] at HUL
      have HU := Lib.hid HUL
      clear HUL hir h2l hgl hown hgs ho hs hsl e8 e9 hc9
      go_wp2_with fail
      refine HU.out.mono ?_
      rintro e w5 ⟨A8, c8, rfl, hc8, hs8, hb8⟩
      have H8 := Lib.hid (And.intro hc8 (And.intro hs8 hb8))
      clear hc8 hs8 hb8
      go_wp2_with fail
      go_ret2
      exact ⟨A8, c8, rfl, H8.out.1, H8.out.2.1, HBW.out.trans (H8.out.2.2.mono HBW.out.size)⟩
end Go.Proofs.Ytaehehoeidnidaa
