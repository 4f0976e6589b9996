/- The reference's ULow: what divides all left out, by great numbers; walked. No condition but that the numbers are not below 0. -/
import Derived.Test.YtaehehoeidnidaaBayL
import Derived.Test.YtaehehoeidnidaaPushG
import Derived.Test.YtaehehoeidnidaaGcdA
import Derived.Test.YtaehehoeidnidaaGcdB
import Derived.Test.YtaehehoeidnidaaBigI
import Derived.Test.YtaehehoeidnidaaBigQ
namespace Go.Proofs.Ytaehehoeidnidaa
open Go.ChangeShapes Go.WideShapes Go.ChangeAt Go.RowKit
set_option linter.unusedVariables false

theorem newZ1 (w : World) : IntZ (w.alloc (.cells #[.bool false, .slice none 0 0] tI)) w.heap.size 0 0 :=
  IntZ.shut (b := false) (ds := []) (A := none) (c := 0) (Blk.new w tI _) (Nat.le_refl _) (Nat.zero_le _) (by first | exact TSeg.nil | exact fun h => absurd h (by simp)) ⟨fun i hi => absurd hi (by simp), fun h => absurd h (by simp), by simp, rfl⟩
theorem tN_ne : tN ≠ tU := by decide
theorem tN_ne2 : tN ≠ tI := by decide
/-- A row of pointers to whole numbers, read. -/
def IRow (w : World) (B : Nat) (A : Option Addr) (gs : List Nat) (l : List Int) : Prop :=
  gs.length = l.length ∧ Seg w B A (gs.map ptrV) ∧ ∀ i, i < l.length → IntZ w (gs.getD i 0) 0 (pat l i)
theorem IRow.at_ {w : World} {B : Nat} {A : Option Addr} {gs : List Nat} {l : List Int} (h : IRow w B A gs l) {i : Nat} (hi : i < l.length) : ∃ ad g, A = some ad ∧ ad.block < B ∧ w.cell? (ad.add i) = some (ptrV g) ∧ IntZ w g 0 (pat l i) := by
  obtain ⟨h1, h2, h3⟩ := h
  obtain ⟨ad, e, hb, hc⟩ := h2.get (k := i) (u := ptrV (gs.getD i 0)) (by simp [List.getD, show i < gs.length by omega])
  exact ⟨ad, _, e, hb, hc, h3 i hi⟩
theorem IRow.below {w w' : World} {A : Option Addr} {gs : List Nat} {l : List Int} (h : IRow w w.heap.size A gs l) (hb : Below w.heap.size w w') : IRow w' w'.heap.size A gs l :=
  ⟨h.1, (h.2.1.below hb).more hb.size, fun i hi => (h.2.2 i hi).below hb⟩
theorem gcd_nat (g : Nat) (x : Int) : ((Nat.gcd ((g : Nat) : Int).natAbs x.natAbs : Nat) : Int) = ((Nat.gcd g x.natAbs : Nat) : Int) := rfl
theorem fits_64 {x : Int} (h0 : 0 ≤ x) (h : x ≤ 9223372036854775807) : Fits x 2 := by
  unfold Fits; have e : bp 2 = 18446744073709551616 := rfl; omega
set_option maxRecDepth 20000 in
set_option maxHeartbeats 8000000 in
theorem ulow_any (A : Option Addr) (gs : List Nat) (l : List Int) (c : Nat) (w : World) (hr : IRow w w.heap.size A gs l) (hn : ∀ x ∈ l, 0 ≤ x ∧ x ≤ 9223372036854775807) (hl : l.length * 8 ≤ 140737488355328) :
    Calls Try.prog 116 #[.slice A l.length c] w fun e w' => ∃ A' c', e = .returned (.slice A' (lowL l).length c') ∧ (lowL l).length ≤ c' ∧ Seg w' w'.heap.size A' ((lowL l).map (.int .i64)) ∧ Below w.heap.size w w' := by
  have HR := Lib.hid hr
  have hpn : Hid (∀ k, k < l.length → 0 ≤ pat l k ∧ pat l k ≤ 9223372036854775807) := fun k hk => by rw [pat_get hk]; exact hn _ (List.getElem_mem hk)
  have HL := Lib.hid hl
  have hgb : Hid (∀ k, gcdF 0 (l.take k) ≤ 9223372036854775807) := fun k => gcdF_bound fun x hx => by have := hn x (List.mem_of_mem_take hx); omega
  have HZ0 := Lib.hid (newZ1 w)
  have HB0 := Lib.hid (newBlk w (.bool false) (.slice none 0 0))
  have HW0 : Hid (Below w.heap.size w (w.alloc (.cells #[.bool false, .slice none 0 0] tI))) := (Below.refl _ _).alloc (Nat.le_refl _) _
  clear hr hn
  go_enter Try.func116, Try.ntmps116
  go_wp2_with fail
  go_loopw [12] (fun s12 wx => ∃ (k : Nat), k ≤ l.length ∧ s12 = .int .i64 k ∧ Hid (IntZ wx w.heap.size 0 (gcdF 0 (l.take k) : Nat) ∧ IntBlk wx w.heap.size) ∧ Hid (Below w.heap.size w wx)) (fun s12 _ => l.length - (intOf s12).toNat)
  case atStart => exact ⟨0, Nat.zero_le _, rfl, ⟨HZ0.out, HB0.out⟩, HW0⟩
  case round =>
    obtain ⟨k, hk, rfl, hg, hb⟩ := hrel
    clear HZ0 HB0 HW0
    by_cases hlt : k < l.length
    · have i1 : (k : Int) < (l.length : Int) := by omega
      obtain ⟨ad, gx, rfl, hab, hca0, hzx⟩ := HR.out.at_ hlt
      have hca := (hb.out.cell (block_lt hca0)).trans hca0
      have HZX := Lib.hid (hzx.below hb.out)
      have HV : Hid (((Nat.gcd (((gcdF 0 (l.take k) : Nat) : Int)).natAbs (pat l k).natAbs : Nat) : Int) = ((gcdF 0 (l.take (k + 1)) : Nat) : Int)) := by
        unfold Hid; rw [gcdF_take hlt]; rfl
      have F1 := Lib.hid (fits_64 (x := (gcdF 0 (l.take k) : Nat)) (by omega) (by have := hgb.out k; omega))
      have F2 := Lib.hid (fits_64 (hpn.out k hlt).1 (hpn.out k hlt).2)
      have uk : Hid (wrap64 ((k : Int) + 1) = ((k + 1 : Nat) : Int)) := bl64 (by have := HL.out; omega)
      have HK := Lib.hid (And.intro hk hlt)
      clear hk hlt hca0 hzx hab
      go_wp2_with fail
      refine (gcd_any w.heap.size w.heap.size 0 gx 0 _ _ 2 wr hg.out.2 hg.out.1 HZX.out F1.out F2.out (by decide) (by decide)).mono ?_
      rintro e u1 ⟨rfl, hp⟩
      rw [HV.out] at hp
      have P1 := Lib.hid hp
      clear hp
      go_wp2_with fail
      go_roundw
      case rel => exact ⟨k + 1, by have := HK.out; omega, by first | rfl | rw [uk.out], ⟨P1.out.1, P1.out.2.1⟩, rb_put hb.out P1.out.2.2 (Nat.le_refl _)⟩
      case measure => (try rw [uk.out]); have := HK.out; simp [intOf]; omega
    · obtain rfl : k = l.length := by omega
      rw [List.take_length] at hg
      have hcase : (gcdL l = 0) ∨ (gcdL l ≠ 0) := by omega
      have HMX0 : Hid (gcdL l = 0 → ((1 : Int) = ((max (gcdL l) 1 : Nat) : Int))) := fun h => by omega
      have HMX1 : Hid (gcdL l ≠ 0 → (((gcdL l : Nat) : Int) = ((max (gcdL l) 1 : Nat) : Int))) := fun h => by omega
      have HSG0 : Hid (gcdL l = 0 → sgn ((gcdL l : Nat) : Int) = 0) := fun h => by rw [h]; rfl
      have HSG1 : Hid (gcdL l ≠ 0 → sgn ((gcdL l : Nat) : Int) = 1) := fun h => by unfold sgn; rw [if_neg (by omega), if_neg (by omega)]
      have hgg : Hid (IntZ wr w.heap.size 0 (gcdL l : Nat) ∧ IntBlk wr w.heap.size) := hg
      clear hk hlt hg
      rcases hcase with h0 | h0
      · have hs0 := HSG0.out h0
        have hm0 := Lib.hid (HMX0.out h0)
        have HS0 := Lib.hid hs0
        clear hs0 h0
        go_wp2_with fail
        refine (sign_any w.heap.size 0 _ wr hgg.out.1).mono ?_
        rintro e w' ⟨rfl, rfl⟩
        rw [HS0.out]
        go_wp2_with fail
        refine (setI_any w.heap.size 1 wr hgg.out.2 (by decide) (by decide)).mono ?_
        rintro e u1 ⟨rfl, hp⟩
        rw [hm0.out] at hp
        have HG : Hid (IntZ u1 w.heap.size 0 (max (gcdL l) 1 : Nat) ∧ IntBlk u1 w.heap.size) := ⟨hp.1, hp.2.1⟩
        have HBU : Hid (Below w.heap.size w u1) := rb_put hb.out hp.2.2 (Nat.le_refl _)
        clear hp
        go_wp2_with fail
        go_loopw [6, 28] (fun s6 s28 wx => ∃ (k : Nat), k ≤ l.length ∧ s28 = .int .i64 k ∧ Hid (IntZ wx w.heap.size 0 (max (gcdL l) 1 : Nat) ∧ IntBlk wx w.heap.size) ∧ Hid (Own wx w.heap.size tN s6 (((lowL l).take k).map (.int .i64))) ∧ Hid (Below w.heap.size w wx)) (fun _ s28 _ => l.length - (intOf s28).toNat)
        case atStart => exact ⟨0, Nat.zero_le _, rfl, HG, Own.none_, HBU⟩
        case round =>
          obtain ⟨k, hk, rfl, hg, ho, hbl⟩ := hrel
          clear HG HBU
          obtain ⟨A6, c6, rfl, hc6, ho6⟩ := ho.out.res2
          have e6 : (((lowL l).take k).map (Value.int .i64)).length = k := by simp [lowL_len]; omega
          rw [e6] at hc6 ho6
          rw [e6]
          have HO := Lib.hid ho6
          by_cases hlt : k < l.length
          · have i1 : (k : Int) < (l.length : Int) := by omega
            obtain ⟨ad, gx, rfl, hab, hca0, hzx⟩ := HR.out.at_ hlt
            have hca := (hbl.out.cell (block_lt hca0)).trans hca0
            have HZX := Lib.hid (hzx.below hbl.out)
            obtain ⟨b1, b2⟩ := hpn.out k hlt
            have HQ : Hid (pat l k / ((max (gcdL l) 1 : Nat) : Int) = pat (lowL l) k) := (lowL_at hlt).symm
            have HQB : Hid (0 ≤ pat (lowL l) k ∧ pat (lowL l) k ≤ 9223372036854775807) := by
              rw [← HQ.out]; exact ⟨Int.ediv_nonneg b1 (by omega), Int.le_trans (Int.ediv_le_self _ b1) b2⟩
            have F1 := Lib.hid (fits_64 b1 b2)
            have hgm : gcdL l ≤ 9223372036854775807 := by have h := hgb.out l.length; rw [List.take_length] at h; exact h
            have F2 := Lib.hid (fits_64 (x := (max (gcdL l) 1 : Nat)) (by omega) (by omega))
            have HNE : Hid (((max (gcdL l) 1 : Nat) : Int) ≠ 0) := by unfold Hid; omega
            have HTK : Hid ((lowL l).take (k + 1) = (lowL l).take k ++ [pat (lowL l) k]) := pat_take (by rw [lowL_len]; exact hlt)
            have uk : Hid (wrap64 ((k : Int) + 1) = ((k + 1 : Nat) : Int)) := bl64 (by have := HL.out; omega)
            have HK := Lib.hid (And.intro hk hlt)
            have HPL : Hid (((((lowL l).take k).map (Value.int .i64)).length + 1) * 8 ≤ 140737488355328 ∧ (((lowL l).take k).map (Value.int .i64)).length + 1 ≤ maxLen) := by
              have := HL.out; unfold Hid maxLen; rw [e6]; omega
            clear hk hlt hca0 hzx hab b1 b2 hgm ho ho6 hc6 e6
            go_wp2_with fail
            refine (div_any wr.heap.size gx 0 w.heap.size 0 _ _ 2 _ (newBlk _ _ _) (HZX.out.alloc _) (hg.out.1.alloc _) HNE.out F1.out F2.out (by decide) (by decide)).mono ?_
            rintro e u2 ⟨rfl, hp⟩
            rw [HQ.out] at hp
            have P2 := Lib.hid hp.new
            clear hp hca
            go_wp2_with fail
            refine (int64_any wr.heap.size 0 _ u2 P2.out.1 (by have := HQB.out; omega) HQB.out.2).mono ?_
            rintro e u2' ⟨rfl, rfl⟩
            have HB2 : Hid (Below w.heap.size w u2) := rb_go hbl.out P2.out.2.2.1
            have HO2 : Hid (Own u2 w.heap.size tN (.slice A6 k c6) (((lowL l).take k).map (.int .i64))) := HO.out.below P2.out.2.2.1 (Nat.le_refl _)
            obtain ⟨X, hX⟩ : ∃ X, X = pat (lowL l) k := ⟨_, rfl⟩
            rw [← hX] at HTK ⊢
            have HX := Lib.hid hX
            clear hX
            have HLT : Hid (w.heap.size ≤ (u2.alloc (.cells #[.int .i64 X] tN)).heap.size) := by have := HB2.out.size; unfold Hid; simp; omega
            go_wp2_with (first
              | (at_builtin; go_must (refine wpList_pushG _ rfl _ _ 41 tN 8 elem_ints rfl w.heap.size _ _ rfl (Own.alloc' HO2.out _) (.int .i64 X) ⟨u2.heap.size, 0, none⟩ 1 rfl (cell_new1 _ _ _) rfl HPL.out.1 HPL.out.2 HLT.out ?_); intro v6 w6 hown6 hgb6; have HO6 := Lib.hid hown6; have HG6 := Lib.hid hgb6; clear hown6 hgb6)
              | fail)
            have HG7 : Hid (IntZ w6 w.heap.size 0 (max (gcdL l) 1 : Nat) ∧ IntBlk w6 w.heap.size) := IntZ.push ((hg.out.1.below P2.out.2.2.1).alloc _) ((hg.out.2.below P2.out.2.2.1).alloc _) (Own.alloc' HO2.out _) tN_ne tN_ne2 HG6.out
            have HB7 : Hid (Below w.heap.size w w6) := Below.grown (rb_alloc HB2.out _) HG6.out HLT.out (fun q hq => HO2.out.block q hq)
            go_roundw
            case rel => exact ⟨k + 1, by have := HK.out; omega, by first | rfl | rw [uk.out], HG7, by unfold Hid; rw [HTK.out, List.map_append]; exact HO6.out, HB7⟩
            case measure => (try rw [uk.out]); have := HK.out; simp [intOf]; omega
          · obtain rfl : k = l.length := by omega
            have e9 : (lowL l).take l.length = lowL l := List.take_of_length_le (by rw [lowL_len]; exact Nat.le_refl _)
            have hs9 := HO.out.seg
            rw [e9] at hs9
            have HS9 := Lib.hid (And.intro hs9 hc6)
            clear hk hlt ho ho6 hc6 e6 e9 hs9
            go_wp2_with fail
            go_ret
            exact ⟨A6, c6, by rw [lowL_len]; rfl, by rw [lowL_len]; exact HS9.out.2, HS9.out.1, hbl.out⟩
      · have hs0 := HSG1.out h0
        have hm0 := Lib.hid (HMX1.out h0)
        have HS0 := Lib.hid hs0
        clear hs0 h0
        go_wp2_with fail
        refine (sign_any w.heap.size 0 _ wr hgg.out.1).mono ?_
        rintro e w' ⟨rfl, rfl⟩
        rw [HS0.out]
        have HG : Hid (IntZ wr w.heap.size 0 (max (gcdL l) 1 : Nat) ∧ IntBlk wr w.heap.size) := by rw [← hm0.out]; exact hgg.out
        have HBU : Hid (Below w.heap.size w wr) := hb.out
        go_wp2_with fail
        go_loopw [6, 28] (fun s6 s28 wx => ∃ (k : Nat), k ≤ l.length ∧ s28 = .int .i64 k ∧ Hid (IntZ wx w.heap.size 0 (max (gcdL l) 1 : Nat) ∧ IntBlk wx w.heap.size) ∧ Hid (Own wx w.heap.size tN s6 (((lowL l).take k).map (.int .i64))) ∧ Hid (Below w.heap.size w wx)) (fun _ s28 _ => l.length - (intOf s28).toNat)
        case atStart => exact ⟨0, Nat.zero_le _, rfl, HG, Own.none_, HBU⟩
        case round =>
          obtain ⟨k, hk, rfl, hg, ho, hbl⟩ := hrel
          clear HG HBU
          obtain ⟨A6, c6, rfl, hc6, ho6⟩ := ho.out.res2
          have e6 : (((lowL l).take k).map (Value.int .i64)).length = k := by simp [lowL_len]; omega
          rw [e6] at hc6 ho6
          rw [e6]
          have HO := Lib.hid ho6
          by_cases hlt : k < l.length
          · have i1 : (k : Int) < (l.length : Int) := by omega
            obtain ⟨ad, gx, rfl, hab, hca0, hzx⟩ := HR.out.at_ hlt
            have hca := (hbl.out.cell (block_lt hca0)).trans hca0
            have HZX := Lib.hid (hzx.below hbl.out)
            obtain ⟨b1, b2⟩ := hpn.out k hlt
            have HQ : Hid (pat l k / ((max (gcdL l) 1 : Nat) : Int) = pat (lowL l) k) := (lowL_at hlt).symm
            have HQB : Hid (0 ≤ pat (lowL l) k ∧ pat (lowL l) k ≤ 9223372036854775807) := by
              rw [← HQ.out]; exact ⟨Int.ediv_nonneg b1 (by omega), Int.le_trans (Int.ediv_le_self _ b1) b2⟩
            have F1 := Lib.hid (fits_64 b1 b2)
            have hgm : gcdL l ≤ 9223372036854775807 := by have h := hgb.out l.length; rw [List.take_length] at h; exact h
            have F2 := Lib.hid (fits_64 (x := (max (gcdL l) 1 : Nat)) (by omega) (by omega))
            have HNE : Hid (((max (gcdL l) 1 : Nat) : Int) ≠ 0) := by unfold Hid; omega
            have HTK : Hid ((lowL l).take (k + 1) = (lowL l).take k ++ [pat (lowL l) k]) := pat_take (by rw [lowL_len]; exact hlt)
            have uk : Hid (wrap64 ((k : Int) + 1) = ((k + 1 : Nat) : Int)) := bl64 (by have := HL.out; omega)
            have HK := Lib.hid (And.intro hk hlt)
            have HPL : Hid (((((lowL l).take k).map (Value.int .i64)).length + 1) * 8 ≤ 140737488355328 ∧ (((lowL l).take k).map (Value.int .i64)).length + 1 ≤ maxLen) := by
              have := HL.out; unfold Hid maxLen; rw [e6]; omega
            clear hk hlt hca0 hzx hab b1 b2 hgm ho ho6 hc6 e6
            go_wp2_with fail
            refine (div_any wr.heap.size gx 0 w.heap.size 0 _ _ 2 _ (newBlk _ _ _) (HZX.out.alloc _) (hg.out.1.alloc _) HNE.out F1.out F2.out (by decide) (by decide)).mono ?_
            rintro e u2 ⟨rfl, hp⟩
            rw [HQ.out] at hp
            have P2 := Lib.hid hp.new
            clear hp hca
            go_wp2_with fail
            refine (int64_any wr.heap.size 0 _ u2 P2.out.1 (by have := HQB.out; omega) HQB.out.2).mono ?_
            rintro e u2' ⟨rfl, rfl⟩
            have HB2 : Hid (Below w.heap.size w u2) := rb_go hbl.out P2.out.2.2.1
            have HO2 : Hid (Own u2 w.heap.size tN (.slice A6 k c6) (((lowL l).take k).map (.int .i64))) := HO.out.below P2.out.2.2.1 (Nat.le_refl _)
            obtain ⟨X, hX⟩ : ∃ X, X = pat (lowL l) k := ⟨_, rfl⟩
            rw [← hX] at HTK ⊢
            have HX := Lib.hid hX
            clear hX
            have HLT : Hid (w.heap.size ≤ (u2.alloc (.cells #[.int .i64 X] tN)).heap.size) := by have := HB2.out.size; unfold Hid; simp; omega
            go_wp2_with (first
              | (at_builtin; go_must (refine wpList_pushG _ rfl _ _ 41 tN 8 elem_ints rfl w.heap.size _ _ rfl (Own.alloc' HO2.out _) (.int .i64 X) ⟨u2.heap.size, 0, none⟩ 1 rfl (cell_new1 _ _ _) rfl HPL.out.1 HPL.out.2 HLT.out ?_); intro v6 w6 hown6 hgb6; have HO6 := Lib.hid hown6; have HG6 := Lib.hid hgb6; clear hown6 hgb6)
              | fail)
            have HG7 : Hid (IntZ w6 w.heap.size 0 (max (gcdL l) 1 : Nat) ∧ IntBlk w6 w.heap.size) := IntZ.push ((hg.out.1.below P2.out.2.2.1).alloc _) ((hg.out.2.below P2.out.2.2.1).alloc _) (Own.alloc' HO2.out _) tN_ne tN_ne2 HG6.out
            have HB7 : Hid (Below w.heap.size w w6) := Below.grown (rb_alloc HB2.out _) HG6.out HLT.out (fun q hq => HO2.out.block q hq)
            go_roundw
            case rel => exact ⟨k + 1, by have := HK.out; omega, by first | rfl | rw [uk.out], HG7, by unfold Hid; rw [HTK.out, List.map_append]; exact HO6.out, HB7⟩
            case measure => (try rw [uk.out]); have := HK.out; simp [intOf]; omega
          · obtain rfl : k = l.length := by omega
            have e9 : (lowL l).take l.length = lowL l := List.take_of_length_le (by rw [lowL_len]; exact Nat.le_refl _)
            have hs9 := HO.out.seg
            rw [e9] at hs9
            have HS9 := Lib.hid (And.intro hs9 hc6)
            clear hk hlt ho ho6 hc6 e6 e9 hs9
            go_wp2_with fail
            go_ret
            exact ⟨A6, c6, by rw [lowL_len]; rfl, by rw [lowL_len]; exact HS9.out.2, HS9.out.1, hbl.out⟩
end Go.Proofs.Ytaehehoeidnidaa
