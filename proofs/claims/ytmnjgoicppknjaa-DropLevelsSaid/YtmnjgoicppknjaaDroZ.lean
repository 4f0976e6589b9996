/- Package drop: the law walked. Printed by drogen3.py. No condition but the arguments' own. -/
import Derived.Test.YtmnjgoicppknjaaDroK
import Derived.Test.YtmnjgoicppknjaaDroH
import Derived.Test.YtmnjgoicppknjaaEqbools
namespace Go.Proofs.Ytmnjgoicppknjaa
open Go.ChangeShapes Go.WideShapes Go.ChangeAt Go.RowKit
set_option linter.unusedVariables false

set_option maxRecDepth 20000 in
set_option maxHeartbeats 4000000 in
theorem DropLevels_core (A : Option Addr) (zs : List Int) (c : Nat) (keep draw : Int) (w : World) (hs : Seg w w.heap.size A (zs.map (.int .i64))) (hl : zs.length ≤ 9223372036854775807) (hdr : draw ≤ 9223372036854775807) :
    Calls Try.prog 13 #[.slice A zs.length c, .int .i64 keep, .int .i64 draw] w fun e w' => e = .returned (.bool true) ∧ Below w.heap.size w w' := by
  have HS := Lib.hid hs
  have HDL := Lib.hid (And.intro hl hdr)
  have HLV := Lib.hid (level_any A zs c keep w hs)
  rw [levR_err] at HLV
  clear hs hl hdr
  have HHV := Lib.hid (fun u hu => heavy_any A zs c keep u hu)
  have HON1 := Lib.hid (fun u hu => one_any A zs c draw u hu HDL.out.1 HDL.out.2)
  have HBD0 := Lib.hid (levR_bd zs keep)
  obtain ⟨num, hnum⟩ : ∃ v, v = (levR zs keep).1.1 := ⟨_, rfl⟩
  obtain ⟨den, hden⟩ : ∃ v, v = (levR zs keep).1.2 := ⟨_, rfl⟩
  rw [← hnum, ← hden] at HLV HBD0
  have HNU := Lib.hid hnum
  have HDE := Lib.hid hden
  clear hnum hden
  obtain ⟨L, hL⟩ : ∃ v, v = heavyR zs keep := ⟨_, rfl⟩
  rw [← hL] at HHV
  have HLL := Lib.hid hL
  clear hL
  go_enter Try.func13, Try.ntmps13
  go_wp2_with fail
  refine HLV.out.mono ?_
  rintro e w1 ⟨rfl, hb1⟩
  have HB1 : Hid (Below w.heap.size w (w1.alloc (.cells #[.int .i64 num, .int .i64 den] 34))) := hb1.alloc hb1.size _
  have HT7 := Lib.hid (Blk.new w1 34 #[.int .i64 num, .int .i64 den])
  clear hb1
  go_wp2_with fail
  generalize w1.alloc (.cells #[.int .i64 num, .int .i64 den] 34) = wa at *
  refine (HHV.out _ ((HS.out.below HB1.out).more HB1.out.size)).mono ?_
  rintro e w2 ⟨⟨B, dB, rfl, hsB⟩, hb2⟩
  have HB2 : Hid (Below w.heap.size w w2) := HB1.out.trans (hb2.mono HB1.out.size)
  have HT2 := Lib.hid (HT7.out.below hb2 HT7.out.lt)
  have HSB := Lib.hid hsB
  clear hb2 hsB
  go_wp2_with fail
  refine (HON1.out _ ((HS.out.below HB2.out).more HB2.out.size)).mono ?_
  rintro e w3 ⟨rfl, hb3⟩
  have HBW : Hid (Below w.heap.size w w3) := HB2.out.trans (hb3.mono HB2.out.size)
  have HT3 := Lib.hid (HT2.out.below hb3 HT2.out.lt)
  have HSB3 : Hid (Seg w3 w3.heap.size B (L.map .bool)) := (HSB.out.below hb3).more hb3.size
  clear hb3 HT7 HT2 HSB HHV HON1
  go_wp2_with fail
  refine (kwrong_any A zs c keep _ ((HS.out.below HBW.out).more HBW.out.size) HDL.out.1).mono ?_
  rintro e w' ⟨rfl, rfl⟩
  go_wp2_with fail
  refine (dwrong_any A zs c keep _ ((HS.out.below HBW.out).more HBW.out.size)).mono ?_
  rintro e w' ⟨rfl, rfl⟩
  have t0 := HT3.out.cell 0 rfl
  have t1 := HT3.out.cell 1 rfl
  by_cases hok : drok zs keep
  · rw [dwe_ok hok]
    have HKL := Lib.hid (klevel_any A zs c keep w' ((HS.out.below HBW.out).more HBW.out.size) hok)
    rw [← HNU.out, ← HDE.out] at HKL
    have HLV2 : Hid (L = hvy num den zs) := by unfold Hid; rw [HLL.out, heavyR, if_pos hok, ← HNU.out, ← HDE.out]
    have HK := Lib.hid hok
    clear hok
    go_wp2_with fail
    refine HKL.out.mono ?_
    rintro e w4 ⟨rfl, hb4⟩
    have HB4 : Hid (Below w.heap.size w (w4.alloc (.cells #[.int .i64 num, .int .i64 den] 34))) := (HBW.out.trans (hb4.mono HBW.out.size)).alloc (Nat.le_trans HBW.out.size hb4.size) _
    have HT14 := Lib.hid (Blk.new w4 34 #[.int .i64 num, .int .i64 den])
    have HT4 := Lib.hid ((HT3.out.below hb4 HT3.out.lt).alloc (.cells #[.int .i64 num, .int .i64 den] 34))
    have HSB4 := Lib.hid (((HSB3.out.below hb4).more hb4.size).alloc (Nat.le_refl _) (.cells #[.int .i64 num, .int .i64 den] 34))
    have HZ4 : Hid (w4.heap.size < (w4.alloc (.cells #[.int .i64 num, .int .i64 den] 34)).heap.size) := by unfold Hid; simp
    clear hb4 t0 t1
    go_wp2_with fail
    generalize w4.alloc (.cells #[.int .i64 num, .int .i64 den] 34) = w5 at *
    go_loopw [15, 76] (fun s15 s76 wr => ∃ k : Nat, k ≤ zs.length ∧ s76 = .int .i64 k ∧ Hid (Own wr w5.heap.size 4 s15 ((hvy num den (zs.take k)).map .bool)) ∧ Hid (Below w5.heap.size w5 wr)) (fun _ s76 _ => zs.length - (intOf s76).toNat)
    case atStart => exact ⟨0, Nat.zero_le _, rfl, Own.none_, Below.refl _ _⟩
    case round =>
      obtain ⟨k, hk, rfl, hown, hbe⟩ := hrel
      have hl4 := HK.out.1.1
      by_cases hlt : k < zs.length
      · have i1 : (k : Int) < (zs.length : Int) := by omega
        obtain ⟨ad, rfl, _, x1⟩ := (HS.out.below (HB4.out.trans (hbe.out.mono HB4.out.size))).pat hlt
        have HT5 := Lib.hid (HT14.out.below hbe.out HZ4.out)
        have t0 := HT5.out.cell 0 rfl
        have t1 := HT5.out.cell 1 rfl
        have HN := Lib.hid (hvy_take num den hlt)
        have hx := dall_pat HK.out.2 k
        have hb := HBD0.out
        have hln : Hid (((hvy num den (zs.take k)).map Value.bool).length ≤ 400) := by unfold Hid; rw [List.length_map, hvy, List.length_map, List.length_take]; omega
        obtain ⟨x, hxe⟩ : ∃ x, x = pat zs k := ⟨_, rfl⟩
        rw [← hxe] at x1 hx
        have HXE := Lib.hid hxe
        clear hxe
        have b4 := mul_bd (a := x) (b := den) 1048576 400 (by omega) (by omega)
        have u1 : wrap64 (x * den) = x * den := by unfold wrap64; omega
        generalize hQ : x * den = Q at *
        have HQ := Lib.hid hQ
        clear b4 hb hx
        have hsz : w5.heap.size ≤ wr.heap.size := hbe.out.size
        obtain ⟨bb, hbb⟩ : ∃ b, b = decide (num ≤ Q) := ⟨_, rfl⟩
        have HNB : Hid (hvy num den (zs.take (k + 1)) = hvy num den (zs.take k) ++ [bb]) := by unfold Hid; rw [HN.out, ← HXE.out, HQ.out, hbb]
        have HBB := Lib.hid hbb
        have hbb2 := hbb.symm
        clear hbb
        go_wp2_with (first
          | (at_builtin; go_must (refine wpList_push _ rfl _ _ 119 4 1 elem_bools rfl w5.heap.size _ _ rfl (Own.alloc' hown.out _) (.bool bb) ⟨wr.heap.size, 0, none⟩ 1 rfl (cell_new1 _ _ _) rfl (by have := hln.out; omega) (by have := hln.out; unfold maxLen; omega) (by simp; omega) ?_); intro v4 w4 hown4 hbel4; have HO4 := Lib.hid hown4; have HB4' : Hid (Below w5.heap.size w5 w4) := ((hbe.out.alloc hsz _)).trans hbel4; clear hown4 hbel4)
          | fail)
        go_roundw
        case rel => exact ⟨k + 1, by omega, by go_num, by unfold Hid; rw [HNB.out, List.map_append]; exact HO4.out, HB4'⟩
        case measure => simp [intOf]; omega
      · obtain rfl : k = zs.length := by omega
        have h1 := hown.out
        rw [List.take_length, ← HLV2.out] at h1
        obtain ⟨D, dd, hve, _, hs1⟩ := h1.res
        rw [List.length_map] at hve
        subst hve
        have HT5 := Lib.hid (HT14.out.below hbe.out HZ4.out)
        have HT6 := Lib.hid (HT4.out.below hbe.out HT4.out.lt)
        have t0 := HT5.out.cell 0 rfl
        have t1 := HT5.out.cell 1 rfl
        have t2 := HT6.out.cell 0 rfl
        have t3 := HT6.out.cell 1 rfl
        have HLE : Hid (L.length ≤ 9223372036854775807) := by unfold Hid; rw [HLV2.out, hvy, List.length_map]; omega
        have HB6 : Hid (Below w.heap.size w wr) := HB4.out.trans (hbe.out.mono HB4.out.size)
        have HSA := Lib.hid ((HSB4.out.below (hbe.out.mono (Nat.le_of_lt HZ4.out))).more (Nat.le_trans (Nat.le_of_lt HZ4.out) hbe.out.size))
        have HSD := Lib.hid hs1
        clear h1 hs1
        go_wp2_with fail
        skip --LOOK1
        refine (eq_bools L L B D dB dd wr.heap.size _ HSA.out HSD.out HLE.out).mono ?_
        rintro e w6 ⟨rfl, n6, rfl⟩
        rw [decide_eq_true rfl]
        have HBX : Hid (Below w.heap.size w (wr.drewN n6)) := below_drewN HB6.out n6
        clear HBW HT3 HSB3 t0 t1 t2 t3 HSA HSD HB6 HT5 HT6 hown hbe HB4 HT14 HT4 HSB4 HZ4
        generalize wr.drewN n6 = wy at *
        have HBW := HBX
        have u0 : wrap64 ((zs.length : Int) - 1) = (zs.length : Int) - 1 := by have := HDL.out; unfold wrap64; omega
        go_wp2_with fail
        refine (kwrong_any A zs c ((zs.length : Int) - 1) _ ((HS.out.below HBW.out).more HBW.out.size) HDL.out.1).mono ?_
        rintro e w' ⟨rfl, rfl⟩
        by_cases hk1 : drok zs ((zs.length : Int) - 1)
        · rw [dwe_ok hk1]
          have HKL := Lib.hid (klevel_any A zs c ((zs.length : Int) - 1) _ ((HS.out.below HBW.out).more HBW.out.size) hk1)
          have HK1 := Lib.hid hk1
          have hon : oneR zs draw = (if draw < 0 then (0, 3) else oneF (levR zs ((zs.length : Int) - 1)).1.1 (levR zs ((zs.length : Int) - 1)).1.2 zs 0 draw) := by unfold oneR; rw [if_pos hk1]
          have HBD := Lib.hid (levR_bd zs ((zs.length : Int) - 1))
          generalize (levR zs ((zs.length : Int) - 1)).1.1 = num1 at *
          generalize (levR zs ((zs.length : Int) - 1)).1.2 = den1 at *
          have HON := Lib.hid hon
          clear hon hk1
          go_wp2_with fail
          refine HKL.out.mono ?_
          rintro e wk ⟨rfl, hbk⟩
          have HBK : Hid (Below w.heap.size w (wk.alloc (.cells #[.int .i64 num1, .int .i64 den1] 34))) := (HBW.out.trans (hbk.mono HBW.out.size)).alloc (Nat.le_trans HBW.out.size hbk.size) _
          have HTK := Lib.hid (Blk.new wk 34 #[.int .i64 num1, .int .i64 den1])
          clear hbk
          obtain ⟨K1, hK1⟩ : ∃ v, v = (oneR zs draw).1 := ⟨_, rfl⟩
          obtain ⟨E1, hE1⟩ : ∃ v, v = (oneR zs draw).2 := ⟨_, rfl⟩
          have HKE : Hid (∀ a b, oneR zs draw = (a, b) → K1 = a ∧ E1 = b) := fun a b q => by rw [hK1, hE1, q]; exact ⟨rfl, rfl⟩
          rw [← hK1, ← hE1]
          clear hK1 hE1
          go_wp2_with fail
          generalize wk.alloc (.cells #[.int .i64 num1, .int .i64 den1] 34) = wq at *
          have t0 := HTK.out.cell 0 rfl
          have t1 := HTK.out.cell 1 rfl
          have hdr := HDL.out.2
          go_loop [21, 120] (fun s21 s120 => ∃ (i : Nat) (en : Int), i ≤ zs.length ∧ 0 ≤ en ∧ en ≤ (i : Int) * 419430400 ∧ s21 = .int .i64 en ∧ s120 = .int .i64 i ∧ Hid (0 ≤ draw → (0 ≤ draw - en ∧ oneF num1 den1 (zs.drop i) i (draw - en) = oneR zs draw))) (fun _ s120 => zs.length - (intOf s120).toNat)
          case atStart => exact ⟨0, 0, Nat.zero_le _, Int.le_refl _, by omega, rfl, rfl, fun q => ⟨by omega, by rw [List.drop_zero, HON.out, if_neg (by omega), Int.sub_zero]⟩⟩
          case round =>
            obtain ⟨i, en, hi, he0, he1, rfl, rfl, hrun⟩ := hrel
            have hl4 := HK1.out.1.1
            by_cases hlt : i < zs.length
            · have i1 : (i : Int) < (zs.length : Int) := by omega
              obtain ⟨ad, rfl, _, x1⟩ := (HS.out.below HBK.out).pat hlt
              have HN : Hid (∀ d, oneF num1 den1 (zs.drop i) i d = if 0 < num1 - pat zs i * den1 then (if d < num1 - pat zs i * den1 then ((i : Int), 0) else oneF num1 den1 (zs.drop (i + 1)) (i + 1) (d - (num1 - pat zs i * den1))) else oneF num1 den1 (zs.drop (i + 1)) (i + 1) d) := fun d => by rw [dro_drop hlt, oneF]
              have hx := dall_pat HK1.out.2 i
              have hb := HBD.out
              generalize pat zs i = x at *
              have b4 := mul_bd (a := x) (b := den1) 1048576 400 (by omega) (by omega)
              have b6 := Int.mul_nonneg hx.1 hb.2.1.1
              have u1 : wrap64 (x * den1) = x * den1 := by unfold wrap64; omega
              generalize hQ : x * den1 = Q at *
              generalize hpt : num1 - Q = pt at *
              have u2 : wrap64 pt = pt := by unfold wrap64; omega
              have b5 : pt ≤ 419430400 := by omega
              clear b4 b6 hb hx
              rcases (by omega : ¬ 0 < pt ∨ (0 < pt ∧ ¬ en ≤ draw) ∨ (0 < pt ∧ en ≤ draw ∧ draw < en + pt) ∨ (0 < pt ∧ en ≤ draw ∧ ¬ draw < en + pt)) with q | ⟨q, q1⟩ | ⟨q, q1, q2⟩ | ⟨q, q1, q2⟩
              · have HM : Hid (0 ≤ draw → (0 ≤ draw - en ∧ oneF num1 den1 (zs.drop (i + 1)) (i + 1) (draw - en) = oneR zs draw)) := fun p => ⟨(hrun.out p).1, by rw [← (hrun.out p).2, HN.out, if_neg q]⟩
                go_wp2_with fail
                go_round
                case rel => exact ⟨i + 1, en, by omega, he0, by omega, rfl, by go_num, HM⟩
                case measure => simp [intOf]; omega
              · have HM : Hid (0 ≤ draw → (0 ≤ draw - (en + pt) ∧ oneF num1 den1 (zs.drop (i + 1)) (i + 1) (draw - (en + pt)) = oneR zs draw)) := fun p => by have := (hrun.out p).1; omega
                have u3 : wrap64 (en + pt) = en + pt := by unfold wrap64; omega
                have hen : 0 ≤ en + pt ∧ en + pt ≤ ((i + 1 : Nat) : Int) * 419430400 := by omega
                go_wp2_with fail
                go_round
                case rel => exact ⟨i + 1, en + pt, by omega, hen.1, hen.2, rfl, by go_num, HM⟩
                case measure => simp [intOf]; omega
              · have hd0 : 0 ≤ draw := by omega
                have HM := HKE.out (i : Int) 0 (by rw [← (hrun.out hd0).2, HN.out, if_pos q, if_pos (by omega)])
                have u3 : wrap64 (en + pt) = en + pt := by unfold wrap64; omega
                obtain ⟨rfl, rfl⟩ := HM
                go_wp2_with fail
                go_ret
                exact ⟨rfl, HBK.out⟩
              · have HM : Hid (0 ≤ draw → (0 ≤ draw - (en + pt) ∧ oneF num1 den1 (zs.drop (i + 1)) (i + 1) (draw - (en + pt)) = oneR zs draw)) := fun p => ⟨by omega, by rw [← (hrun.out p).2, HN.out, if_pos q, if_neg (by omega), show draw - en - pt = draw - (en + pt) by omega]⟩
                have u3 : wrap64 (en + pt) = en + pt := by unfold wrap64; omega
                have hen : 0 ≤ en + pt ∧ en + pt ≤ ((i + 1 : Nat) : Int) * 419430400 := by omega
                go_wp2_with fail
                go_round
                case rel => exact ⟨i + 1, en + pt, by omega, hen.1, hen.2, rfl, by go_num, HM⟩
                case measure => simp [intOf]; omega
            · obtain rfl : i = zs.length := by omega
              have HM : K1 = 0 ∧ E1 = 3 := by
                refine HKE.out 0 3 ?_
                by_cases p : 0 ≤ draw
                · have := (hrun.out p).2
                  rw [List.drop_length] at this
                  exact this.symm
                · rw [HON.out, if_pos (by omega)]
              obtain ⟨rfl, rfl⟩ := HM
              go_wp2_with fail
              go_ret
              exact ⟨rfl, HBK.out⟩
        · rw [dwe_no hk1]
          have hon : oneR zs draw = (0, 2) := by unfold oneR; rw [if_neg hk1]
          rw [hon]
          clear hon hk1
          go_wp2_with fail
          go_ret
          exact ⟨rfl, HBW.out⟩
  · rw [dwe_no hok]
    have HV : Hid (levR zs keep = ((0, 0), 2)) := by unfold levR Hid; rw [if_neg hok]
    obtain rfl : num = 0 := by rw [HNU.out, HV.out]
    obtain rfl : den = 0 := by rw [HDE.out, HV.out]
    obtain rfl : L = [] := by rw [HLL.out, heavyR, if_neg hok]
    clear hok
    have hl0 : (([] : List Bool).length : Int) = 0 := rfl
    skip --LOOK2
    have u0 : wrap64 ((zs.length : Int) - 1) = (zs.length : Int) - 1 := by have := HDL.out; unfold wrap64; omega
    go_wp2_with fail
    refine (kwrong_any A zs c ((zs.length : Int) - 1) _ ((HS.out.below HBW.out).more HBW.out.size) HDL.out.1).mono ?_
    rintro e w' ⟨rfl, rfl⟩
    by_cases hk1 : drok zs ((zs.length : Int) - 1)
    · rw [dwe_ok hk1]
      have HKL := Lib.hid (klevel_any A zs c ((zs.length : Int) - 1) _ ((HS.out.below HBW.out).more HBW.out.size) hk1)
      have HK1 := Lib.hid hk1
      have hon : oneR zs draw = (if draw < 0 then (0, 3) else oneF (levR zs ((zs.length : Int) - 1)).1.1 (levR zs ((zs.length : Int) - 1)).1.2 zs 0 draw) := by unfold oneR; rw [if_pos hk1]
      have HBD := Lib.hid (levR_bd zs ((zs.length : Int) - 1))
      generalize (levR zs ((zs.length : Int) - 1)).1.1 = num1 at *
      generalize (levR zs ((zs.length : Int) - 1)).1.2 = den1 at *
      have HON := Lib.hid hon
      clear hon hk1
      go_wp2_with fail
      refine HKL.out.mono ?_
      rintro e wk ⟨rfl, hbk⟩
      have HBK : Hid (Below w.heap.size w (wk.alloc (.cells #[.int .i64 num1, .int .i64 den1] 34))) := (HBW.out.trans (hbk.mono HBW.out.size)).alloc (Nat.le_trans HBW.out.size hbk.size) _
      have HTK := Lib.hid (Blk.new wk 34 #[.int .i64 num1, .int .i64 den1])
      clear hbk
      obtain ⟨K1, hK1⟩ : ∃ v, v = (oneR zs draw).1 := ⟨_, rfl⟩
      obtain ⟨E1, hE1⟩ : ∃ v, v = (oneR zs draw).2 := ⟨_, rfl⟩
      have HKE : Hid (∀ a b, oneR zs draw = (a, b) → K1 = a ∧ E1 = b) := fun a b q => by rw [hK1, hE1, q]; exact ⟨rfl, rfl⟩
      rw [← hK1, ← hE1]
      clear hK1 hE1
      go_wp2_with fail
      generalize wk.alloc (.cells #[.int .i64 num1, .int .i64 den1] 34) = wq at *
      have t0 := HTK.out.cell 0 rfl
      have t1 := HTK.out.cell 1 rfl
      have hdr := HDL.out.2
      go_loop [21, 120] (fun s21 s120 => ∃ (i : Nat) (en : Int), i ≤ zs.length ∧ 0 ≤ en ∧ en ≤ (i : Int) * 419430400 ∧ s21 = .int .i64 en ∧ s120 = .int .i64 i ∧ Hid (0 ≤ draw → (0 ≤ draw - en ∧ oneF num1 den1 (zs.drop i) i (draw - en) = oneR zs draw))) (fun _ s120 => zs.length - (intOf s120).toNat)
      case atStart => exact ⟨0, 0, Nat.zero_le _, Int.le_refl _, by omega, rfl, rfl, fun q => ⟨by omega, by rw [List.drop_zero, HON.out, if_neg (by omega), Int.sub_zero]⟩⟩
      case round =>
        obtain ⟨i, en, hi, he0, he1, rfl, rfl, hrun⟩ := hrel
        have hl4 := HK1.out.1.1
        by_cases hlt : i < zs.length
        · have i1 : (i : Int) < (zs.length : Int) := by omega
          obtain ⟨ad, rfl, _, x1⟩ := (HS.out.below HBK.out).pat hlt
          have HN : Hid (∀ d, oneF num1 den1 (zs.drop i) i d = if 0 < num1 - pat zs i * den1 then (if d < num1 - pat zs i * den1 then ((i : Int), 0) else oneF num1 den1 (zs.drop (i + 1)) (i + 1) (d - (num1 - pat zs i * den1))) else oneF num1 den1 (zs.drop (i + 1)) (i + 1) d) := fun d => by rw [dro_drop hlt, oneF]
          have hx := dall_pat HK1.out.2 i
          have hb := HBD.out
          generalize pat zs i = x at *
          have b4 := mul_bd (a := x) (b := den1) 1048576 400 (by omega) (by omega)
          have b6 := Int.mul_nonneg hx.1 hb.2.1.1
          have u1 : wrap64 (x * den1) = x * den1 := by unfold wrap64; omega
          generalize hQ : x * den1 = Q at *
          generalize hpt : num1 - Q = pt at *
          have u2 : wrap64 pt = pt := by unfold wrap64; omega
          have b5 : pt ≤ 419430400 := by omega
          clear b4 b6 hb hx
          rcases (by omega : ¬ 0 < pt ∨ (0 < pt ∧ ¬ en ≤ draw) ∨ (0 < pt ∧ en ≤ draw ∧ draw < en + pt) ∨ (0 < pt ∧ en ≤ draw ∧ ¬ draw < en + pt)) with q | ⟨q, q1⟩ | ⟨q, q1, q2⟩ | ⟨q, q1, q2⟩
          · have HM : Hid (0 ≤ draw → (0 ≤ draw - en ∧ oneF num1 den1 (zs.drop (i + 1)) (i + 1) (draw - en) = oneR zs draw)) := fun p => ⟨(hrun.out p).1, by rw [← (hrun.out p).2, HN.out, if_neg q]⟩
            go_wp2_with fail
            go_round
            case rel => exact ⟨i + 1, en, by omega, he0, by omega, rfl, by go_num, HM⟩
            case measure => simp [intOf]; omega
          · have HM : Hid (0 ≤ draw → (0 ≤ draw - (en + pt) ∧ oneF num1 den1 (zs.drop (i + 1)) (i + 1) (draw - (en + pt)) = oneR zs draw)) := fun p => by have := (hrun.out p).1; omega
            have u3 : wrap64 (en + pt) = en + pt := by unfold wrap64; omega
            have hen : 0 ≤ en + pt ∧ en + pt ≤ ((i + 1 : Nat) : Int) * 419430400 := by omega
            go_wp2_with fail
            go_round
            case rel => exact ⟨i + 1, en + pt, by omega, hen.1, hen.2, rfl, by go_num, HM⟩
            case measure => simp [intOf]; omega
          · have hd0 : 0 ≤ draw := by omega
            have HM := HKE.out (i : Int) 0 (by rw [← (hrun.out hd0).2, HN.out, if_pos q, if_pos (by omega)])
            have u3 : wrap64 (en + pt) = en + pt := by unfold wrap64; omega
            obtain ⟨rfl, rfl⟩ := HM
            go_wp2_with fail
            go_ret
            exact ⟨rfl, HBK.out⟩
          · have HM : Hid (0 ≤ draw → (0 ≤ draw - (en + pt) ∧ oneF num1 den1 (zs.drop (i + 1)) (i + 1) (draw - (en + pt)) = oneR zs draw)) := fun p => ⟨by omega, by rw [← (hrun.out p).2, HN.out, if_pos q, if_neg (by omega), show draw - en - pt = draw - (en + pt) by omega]⟩
            have u3 : wrap64 (en + pt) = en + pt := by unfold wrap64; omega
            have hen : 0 ≤ en + pt ∧ en + pt ≤ ((i + 1 : Nat) : Int) * 419430400 := by omega
            go_wp2_with fail
            go_round
            case rel => exact ⟨i + 1, en + pt, by omega, hen.1, hen.2, rfl, by go_num, HM⟩
            case measure => simp [intOf]; omega
        · obtain rfl : i = zs.length := by omega
          have HM : K1 = 0 ∧ E1 = 3 := by
            refine HKE.out 0 3 ?_
            by_cases p : 0 ≤ draw
            · have := (hrun.out p).2
              rw [List.drop_length] at this
              exact this.symm
            · rw [HON.out, if_pos (by omega)]
          obtain ⟨rfl, rfl⟩ := HM
          go_wp2_with fail
          go_ret
          exact ⟨rfl, HBK.out⟩
    · rw [dwe_no hk1]
      have hon : oneR zs draw = (0, 2) := by unfold oneR; rw [if_neg hk1]
      rw [hon]
      clear hon hk1
      go_wp2_with fail
      go_ret
      exact ⟨rfl, HBW.out⟩
end Go.Proofs.Ytmnjgoicppknjaa
