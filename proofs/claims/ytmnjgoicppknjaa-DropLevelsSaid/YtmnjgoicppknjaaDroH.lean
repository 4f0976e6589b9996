/- Package drop: which are heavy, and which one is left out, walked. No condition. -/
import Derived.Test.YtmnjgoicppknjaaDroL
namespace Go.Proofs.Ytmnjgoicppknjaa
open Go.ChangeShapes Go.WideShapes Go.ChangeAt Go.RowKit
set_option linter.unusedVariables false

theorem lev_bd {ss : List Int} (hd : dall ss) : ∀ n m : Nat, m ≤ 400 → n ≤ 400 → (0 ≤ (lev ss m n).1 ∧ (lev ss m n).1 ≤ 419430400) ∧ (0 ≤ (lev ss m n).2 ∧ (lev ss m n).2 ≤ 400) ∧ (1 ≤ n → 1 ≤ (lev ss m n).2)
  | 0, m, hm, _ => by
    have h := dpsm_bd hd m
    rw [lev]
    exact ⟨⟨h.1, by show psm ss m ≤ _; omega⟩, ⟨Int.le_refl _, by show (0 : Int) ≤ 400; decide⟩, fun q => by omega⟩
  | n + 1, m, hm, hn => by
    have h := dpsm_bd hd m
    have ih := lev_bd hd n (m - 1) (by omega) (by omega)
    rw [lev]
    split
    · exact ⟨⟨h.1, by show psm ss m ≤ _; omega⟩, ⟨by show 0 ≤ ((n + 1 : Nat) : Int); omega, by show ((n + 1 : Nat) : Int) ≤ 400; omega⟩, fun _ => by show 1 ≤ ((n + 1 : Nat) : Int); omega⟩
    · rename_i q
      exact ⟨ih.1, ih.2.1, fun _ => ih.2.2 (by omega)⟩
theorem levR_bd (zs : List Int) (keep : Int) : (0 ≤ (levR zs keep).1.1 ∧ (levR zs keep).1.1 ≤ 419430400) ∧ (0 ≤ (levR zs keep).1.2 ∧ (levR zs keep).1.2 ≤ 400) ∧ ((levR zs keep).1.2 = 0 → (levR zs keep).1.1 = 0) := by
  unfold levR
  split
  · rename_i hk
    split
    · exact ⟨⟨by decide, by decide⟩, ⟨by decide, by decide⟩, fun _ => rfl⟩
    · have hd : dall (isort zs) := fun v hv => hk.2 v ((isort_perm zs).mem_iff.1 hv)
      have h := lev_bd hd keep.toNat zs.length hk.1.1 (by have := hk.1.2.2; omega)
      have h1 := h.2.2 (by have := hk.1.2.1; omega)
      exact ⟨h.1, h.2.1, fun q => absurd (show (lev (isort zs) zs.length keep.toNat).2 = 0 from q) (by omega)⟩
  · exact ⟨⟨by decide, by decide⟩, ⟨by decide, by decide⟩, fun _ => rfl⟩
theorem levR_err (zs : List Int) (keep : Int) : (levR zs keep).2 = dwe zs keep := by
  unfold levR dwe
  split
  · split <;> rfl
  · rfl
/-- Which ones are heavy. -/
def hvy (num den : Int) (zs : List Int) : List Bool := zs.map fun x => decide (num ≤ x * den)
theorem hvy_take {zs : List Int} {k : Nat} (num den : Int) (h : k < zs.length) : hvy num den (zs.take (k + 1)) = hvy num den (zs.take k) ++ [decide (num ≤ pat zs k * den)] := by
  unfold hvy; rw [pat_take h, List.map_append]; rfl
def heavyR (zs : List Int) (keep : Int) : List Bool := if drok zs keep then hvy (levR zs keep).1.1 (levR zs keep).1.2 zs else []
set_option maxRecDepth 20000 in
set_option maxHeartbeats 4000000 in
theorem heavy_any (A : Option Addr) (zs : List Int) (c : Nat) (keep : Int) (w : World) (hs : Seg w w.heap.size A (zs.map (.int .i64))) :
    Calls Try.prog 106 #[.slice A zs.length c, .int .i64 keep] w fun e w' => (∃ B d, e = .returned (.tuple #[.slice B (heavyR zs keep).length d, .int .i64 (dwe zs keep)]) ∧ Seg w' w'.heap.size B ((heavyR zs keep).map .bool)) ∧ Below w.heap.size w w' := by
  have HS := Lib.hid hs
  have HLV := Lib.hid (level_any A zs c keep w hs)
  rw [levR_err] at HLV
  have hbd := levR_bd zs keep
  have hhv : heavyR zs keep = if drok zs keep then hvy (levR zs keep).1.1 (levR zs keep).1.2 zs else [] := rfl
  clear hs
  generalize (levR zs keep).1.1 = num at *
  generalize (levR zs keep).1.2 = den at *
  go_enter Try.func106, Try.ntmps106
  go_wp2_with fail
  refine HLV.out.mono ?_
  rintro e w1 ⟨rfl, hb1⟩
  have HB1 := Lib.hid hb1
  clear hb1
  by_cases hok : drok zs keep
  · have HD : Hid (dwe zs keep = 0) := dwe_ok hok
    rw [dwe_ok hok]
    have HV : Hid (heavyR zs keep = hvy num den zs) := by unfold Hid; rw [hhv, if_pos hok]
    have HK := Lib.hid hok
    have HBD := Lib.hid hbd
    clear hok hhv hbd
    go_wp2_with fail
    have HT := Lib.hid (Blk.new w1 34 #[.int .i64 num, .int .i64 den])
    have HB2 : Hid (Below w.heap.size w (w1.alloc (.cells #[.int .i64 num, .int .i64 den] 34))) := HB1.out.alloc HB1.out.size _
    have HZ : Hid (w1.heap.size < (w1.alloc (.cells #[.int .i64 num, .int .i64 den] 34)).heap.size) := by unfold Hid; simp
    generalize w1.alloc (.cells #[.int .i64 num, .int .i64 den] 34) = w2 at *
    go_loopw [8, 22] (fun s8 s22 wr => ∃ k : Nat, k ≤ zs.length ∧ s22 = .int .i64 k ∧ Hid (Own wr w2.heap.size 4 s8 ((hvy num den (zs.take k)).map .bool)) ∧ Hid (Below w2.heap.size w2 wr)) (fun _ s22 _ => zs.length - (intOf s22).toNat)
    case atStart => exact ⟨0, Nat.zero_le _, rfl, Own.none_, Below.refl _ _⟩
    case round =>
      obtain ⟨k, hk, rfl, hown, hbe⟩ := hrel
      have hl4 := HK.out.1.1
      by_cases hlt : k < zs.length
      · have i1 : (k : Int) < (zs.length : Int) := by omega
        obtain ⟨ad, rfl, _, x1⟩ := (HS.out.below (HB2.out.trans (hbe.out.mono HB2.out.size))).pat hlt
        have HT3 := Lib.hid (HT.out.below hbe.out HZ.out)
        have t0 := HT3.out.cell 0 rfl
        have t1 := HT3.out.cell 1 rfl
        have HN := Lib.hid (hvy_take num den hlt)
        have hx := dall_pat HK.out.2 k
        have hb := HBD.out
        have hln : Hid (((hvy num den (zs.take k)).map Value.bool).length ≤ 400) := by unfold Hid; rw [List.length_map, hvy, List.length_map, List.length_take]; omega
        obtain ⟨x, hxe⟩ : ∃ x, x = pat zs k := ⟨_, rfl⟩
        rw [← hxe] at x1 hx
        have HXE := Lib.hid hxe
        clear hxe
        have b4 := mul_bd (a := x) (b := den) 1048576 400 (by omega) (by omega)
        have u1 : wrap64 (x * den) = x * den := by unfold wrap64; omega
        have h0 : den = 0 → x * den = 0 ∧ num = 0 := fun q => ⟨by rw [q, Int.mul_zero], hb.2.2 q⟩
        generalize hQ : x * den = Q at *
        have HQ := Lib.hid hQ
        have hcs : (den = 0 ∧ num ≤ Q) ∨ (¬ den = 0 ∧ num ≤ Q) ∨ (¬ den = 0 ∧ ¬ num ≤ Q) := by
          by_cases q : den = 0
          · have := h0 q; exact .inl ⟨q, by omega⟩
          · by_cases q1 : num ≤ Q
            · exact .inr (.inl ⟨q, q1⟩)
            · exact .inr (.inr ⟨q, q1⟩)
        clear b4 hb h0 hx
        have hsz : w2.heap.size ≤ wr.heap.size := hbe.out.size
        rcases hcs with ⟨q, q1⟩ | ⟨q, q1⟩ | ⟨q, q1⟩
        · have hbv : decide (num ≤ pat zs k * den) = true := by rw [← HXE.out, HQ.out]; exact decide_eq_true q1
          have HNB : Hid (hvy num den (zs.take (k + 1)) = hvy num den (zs.take k) ++ [true]) := by unfold Hid; rw [HN.out, hbv]
          subst q
          clear hbv
          go_wp2_with (first
            | (at_builtin; go_must (refine wpList_push _ rfl _ _ 119 4 1 elem_bools rfl w2.heap.size _ _ rfl (Own.alloc' hown.out _) (.bool true) ⟨wr.heap.size, 0, none⟩ 1 rfl (cell_new1 _ _ _) rfl (by have := hln.out; omega) (by have := hln.out; unfold maxLen; omega) (by simp; omega) ?_); intro v4 w4 hown4 hbel4; have HO4 := Lib.hid hown4; have HB4 : Hid (Below w2.heap.size w2 w4) := ((hbe.out.alloc hsz _)).trans hbel4; clear hown4 hbel4)
            | fail)
          go_roundw
          case rel => exact ⟨k + 1, by omega, by go_num, by unfold Hid; rw [HNB.out, List.map_append]; exact HO4.out, HB4⟩
          case measure => simp [intOf]; omega
        · have hbv : decide (num ≤ pat zs k * den) = true := by rw [← HXE.out, HQ.out]; exact decide_eq_true q1
          have HNB : Hid (hvy num den (zs.take (k + 1)) = hvy num den (zs.take k) ++ [true]) := by unfold Hid; rw [HN.out, hbv]
          have qd : (den == 0) = false := by simp [q]
          clear hbv
          go_wp2_with (first
            | (at_builtin; go_must (refine wpList_push _ rfl _ _ 119 4 1 elem_bools rfl w2.heap.size _ _ rfl (Own.alloc' hown.out _) (.bool true) ⟨wr.heap.size, 0, none⟩ 1 rfl (cell_new1 _ _ _) rfl (by have := hln.out; omega) (by have := hln.out; unfold maxLen; omega) (by simp; omega) ?_); intro v4 w4 hown4 hbel4; have HO4 := Lib.hid hown4; have HB4 : Hid (Below w2.heap.size w2 w4) := ((hbe.out.alloc hsz _)).trans hbel4; clear hown4 hbel4)
            | fail)
          go_roundw
          case rel => exact ⟨k + 1, by omega, by go_num, by unfold Hid; rw [HNB.out, List.map_append]; exact HO4.out, HB4⟩
          case measure => simp [intOf]; omega
        · have hbv : decide (num ≤ pat zs k * den) = false := by rw [← HXE.out, HQ.out]; exact decide_eq_false q1
          have HNB : Hid (hvy num den (zs.take (k + 1)) = hvy num den (zs.take k) ++ [false]) := by unfold Hid; rw [HN.out, hbv]
          have qd : (den == 0) = false := by simp [q]
          clear hbv
          go_wp2_with (first
            | (at_builtin; go_must (refine wpList_push _ rfl _ _ 119 4 1 elem_bools rfl w2.heap.size _ _ rfl (Own.alloc' hown.out _) (.bool false) ⟨wr.heap.size, 0, none⟩ 1 rfl (cell_new1 _ _ _) rfl (by have := hln.out; omega) (by have := hln.out; unfold maxLen; omega) (by simp; omega) ?_); intro v4 w4 hown4 hbel4; have HO4 := Lib.hid hown4; have HB4 : Hid (Below w2.heap.size w2 w4) := ((hbe.out.alloc hsz _)).trans hbel4; clear hown4 hbel4)
            | fail)
          go_roundw
          case rel => exact ⟨k + 1, by omega, by go_num, by unfold Hid; rw [HNB.out, List.map_append]; exact HO4.out, HB4⟩
          case measure => simp [intOf]; omega
      · obtain rfl : k = zs.length := by omega
        have h1 := hown.out
        rw [List.take_length] at h1
        obtain ⟨B, d, hve, _, hs1⟩ := h1.res
        rw [List.length_map] at hve
        subst hve
        have HS1 := Lib.hid hs1
        clear h1 hs1
        go_wp2_with fail
        go_ret2
        exact ⟨⟨B, d, by rw [HV.out, HD.out]; rfl, by rw [HV.out]; exact HS1.out⟩, HB2.out.trans (hbe.out.mono HB2.out.size)⟩
  · have HD : Hid (dwe zs keep = 2) := dwe_no hok
    rw [dwe_no hok]
    have HV : Hid (heavyR zs keep = []) := by unfold Hid; rw [hhv, if_neg hok]
    clear hok hhv hbd
    go_wp2_with fail
    go_ret2
    exact ⟨⟨none, 0, by rw [HV.out, HD.out]; rfl, by rw [HV.out]; exact Seg.nil⟩, HB1.out.alloc HB1.out.size _⟩
/-- Which one is left out, from place k on. -/
def oneF (num den : Int) : List Int → Nat → Int → Int × Int
  | [], _, _ => (0, 3)
  | x :: l, k, d => if 0 < num - x * den then (if d < num - x * den then ((k : Int), 0) else oneF num den l (k + 1) (d - (num - x * den))) else oneF num den l (k + 1) d
def oneR (zs : List Int) (draw : Int) : Int × Int := if drok zs ((zs.length : Int) - 1) then (if draw < 0 then (0, 3) else oneF (levR zs ((zs.length : Int) - 1)).1.1 (levR zs ((zs.length : Int) - 1)).1.2 zs 0 draw) else (0, 2)
theorem dro_drop {zs : List Int} {i : Nat} (h : i < zs.length) : zs.drop i = pat zs i :: zs.drop (i + 1) := by
  rw [pat_get h]; exact List.drop_eq_getElem_cons h
set_option maxRecDepth 20000 in
set_option maxHeartbeats 4000000 in
theorem one_any (A : Option Addr) (zs : List Int) (c : Nat) (draw : Int) (w : World) (hs : Seg w w.heap.size A (zs.map (.int .i64))) (hl : zs.length ≤ 9223372036854775807) (hdr : draw ≤ 9223372036854775807) :
    Calls Try.prog 107 #[.slice A zs.length c, .int .i64 draw] w fun e w' => e = .returned (.tuple #[.int .i64 (oneR zs draw).1, .int .i64 (oneR zs draw).2]) ∧ Below w.heap.size w w' := by
  have HS := Lib.hid hs
  have HLV := Lib.hid (level_any A zs c ((zs.length : Int) - 1) w hs)
  rw [levR_err] at HLV
  have hbd := levR_bd zs ((zs.length : Int) - 1)
  have hon : oneR zs draw = if drok zs ((zs.length : Int) - 1) then (if draw < 0 then (0, 3) else oneF (levR zs ((zs.length : Int) - 1)).1.1 (levR zs ((zs.length : Int) - 1)).1.2 zs 0 draw) else (0, 2) := rfl
  clear hs
  generalize (levR zs ((zs.length : Int) - 1)).1.1 = num at *
  generalize (levR zs ((zs.length : Int) - 1)).1.2 = den at *
  have u0 : wrap64 ((zs.length : Int) - 1) = (zs.length : Int) - 1 := by unfold wrap64; omega
  go_enter Try.func107, Try.ntmps107
  go_wp2_with fail
  refine HLV.out.mono ?_
  rintro e w1 ⟨rfl, hb1⟩
  have HB1 := Lib.hid hb1
  clear hb1
  by_cases hok : drok zs ((zs.length : Int) - 1)
  · rw [dwe_ok hok]
    by_cases hd0 : draw < 0
    · have HV : Hid (oneR zs draw = (0, 3)) := by unfold Hid; rw [hon, if_pos hok, if_pos hd0]
      clear hok hon hbd
      go_wp2_with fail
      go_ret2
      exact ⟨by rw [HV.out]; rfl, HB1.out.alloc HB1.out.size _⟩
    · have HV : Hid (oneR zs draw = oneF num den zs 0 draw) := by unfold Hid; rw [hon, if_pos hok, if_neg hd0]
      have HK := Lib.hid hok
      have HBD := Lib.hid hbd
      have HD0 : Hid (0 ≤ draw) := by unfold Hid; omega
      clear hok hon hbd
      go_wp2_with fail
      have HT := Lib.hid (Blk.new w1 34 #[.int .i64 num, .int .i64 den])
      have HB2 : Hid (Below w.heap.size w (w1.alloc (.cells #[.int .i64 num, .int .i64 den] 34))) := HB1.out.alloc HB1.out.size _
      generalize w1.alloc (.cells #[.int .i64 num, .int .i64 den] 34) = w2 at *
      have t0 := HT.out.cell 0 rfl
      have t1 := HT.out.cell 1 rfl
      clear hd0
      go_loop [1, 28] (fun s1 s28 => ∃ (k : Nat) (d : Int), k ≤ zs.length ∧ 0 ≤ d ∧ d ≤ draw ∧ s1 = .int .i64 d ∧ s28 = .int .i64 k ∧ Hid (oneF num den (zs.drop k) k d = oneF num den zs 0 draw)) (fun _ s28 => zs.length - (intOf s28).toNat)
      case atStart => exact ⟨0, draw, Nat.zero_le _, HD0.out, Int.le_refl _, rfl, rfl, by unfold Hid; rw [List.drop_zero]⟩
      case round =>
        obtain ⟨k, d, hk, hd1, hd2, rfl, rfl, hrun⟩ := hrel
        have hl4 := HK.out.1.1
        by_cases hlt : k < zs.length
        · have i1 : (k : Int) < (zs.length : Int) := by omega
          obtain ⟨ad, rfl, _, x1⟩ := (HS.out.below HB2.out).pat hlt
          have HN : Hid (oneF num den (zs.drop k) k d = if 0 < num - pat zs k * den then (if d < num - pat zs k * den then ((k : Int), 0) else oneF num den (zs.drop (k + 1)) (k + 1) (d - (num - pat zs k * den))) else oneF num den (zs.drop (k + 1)) (k + 1) d) := by unfold Hid; rw [dro_drop hlt, oneF]
          have hx := dall_pat HK.out.2 k
          have hb := HBD.out
          generalize pat zs k = x at *
          have b4 := mul_bd (a := x) (b := den) 1048576 400 (by omega) (by omega)
          have b6 := Int.mul_nonneg hx.1 hb.2.1.1
          have u1 : wrap64 (x * den) = x * den := by unfold wrap64; omega
          generalize hQ : x * den = Q at *
          generalize hpt : num - Q = pt at *
          have u2 : wrap64 pt = pt := by unfold wrap64; omega
          have b5 : pt ≤ 419430400 := by omega
          clear b4 b6 hb hx
          rcases (by omega : ¬ 0 < pt ∨ (0 < pt ∧ d < pt) ∨ (0 < pt ∧ ¬ d < pt)) with q | ⟨q, q1⟩ | ⟨q, q1⟩
          · have HM : Hid (oneF num den (zs.drop (k + 1)) (k + 1) d = oneF num den zs 0 draw) := by unfold Hid; rw [← hrun.out, HN.out, if_neg q]
            go_wp2_with fail
            go_round
            case rel => exact ⟨k + 1, d, by omega, by omega, by omega, rfl, by go_num, HM⟩
            case measure => simp [intOf]; omega
          · have HM : Hid (oneR zs draw = ((k : Int), 0)) := by unfold Hid; rw [HV.out, ← hrun.out, HN.out, if_pos q, if_pos q1]
            go_wp2_with fail
            go_ret2
            exact ⟨by rw [HM.out]; rfl, HB2.out⟩
          · have HM : Hid (oneF num den (zs.drop (k + 1)) (k + 1) (d - pt) = oneF num den zs 0 draw) := by unfold Hid; rw [← hrun.out, HN.out, if_pos q, if_neg q1]
            have hd3 : 0 ≤ d - pt ∧ d - pt ≤ draw := by omega
            have u3 : wrap64 (d - pt) = d - pt := by unfold wrap64; omega
            go_wp2_with fail
            go_round
            case rel => exact ⟨k + 1, d - pt, by omega, hd3.1, hd3.2, by first | rfl | rw [u3], by go_num, HM⟩
            case measure => simp [intOf]; omega
        · obtain rfl : k = zs.length := by omega
          have HM : Hid (oneR zs draw = (0, 3)) := by unfold Hid; rw [HV.out, ← hrun.out, List.drop_length]; rfl
          go_wp2_with fail
          go_ret2
          exact ⟨by rw [HM.out]; rfl, HB2.out⟩
  · rw [dwe_no hok]
    have HV : Hid (oneR zs draw = (0, 2)) := by unfold Hid; rw [hon, if_neg hok]
    clear hok hon hbd
    go_wp2_with fail
    go_ret2
    exact ⟨by rw [HV.out]; rfl, HB1.out.alloc HB1.out.size _⟩
end Go.Proofs.Ytmnjgoicppknjaa
