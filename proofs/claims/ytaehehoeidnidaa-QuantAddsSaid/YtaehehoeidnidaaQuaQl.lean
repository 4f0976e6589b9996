/- The law QuantAdds, walked: it is true. No condition. -/
import Derived.Test.YtaehehoeidnidaaQuaZ
import Derived.Test.YtaehehoeidnidaaQuaY
import Derived.Test.YtaehehoeidnidaaQuaH
import Derived.Test.YtaehehoeidnidaaQuaP
import Derived.Test.YtaehehoeidnidaaQuaO
namespace Go.Proofs.Ytaehehoeidnidaa
open Go.ChangeShapes Go.WideShapes Go.ChangeAt Go.RowKit
set_option linter.unusedVariables false

set_option maxRecDepth 100000 in
set_option maxHeartbeats 8000000 in
theorem QuantAdds_walk (parts : Int) (l : Option Addr × List Rk × Nat) (x place : Int) (A : Option Addr) (zs : List Int) (c : Nat) (w : World) (hp : (Lit.int .i64 parts).wf = true) (hl : RkOk w l) (hx : (Lit.int .i64 x).wf = true) (hpl : (Lit.int .i64 place).wf = true)
    (hc : zs.length ≤ c) (hm : c ≤ maxLen) (hw : ∀ n ∈ zs, (Lit.int .i64 n).wf = true) (hs : Seg w w.heap.size A (zs.map (.int .i64))) :
    Calls Try.prog 10 #[.int .i64 parts, RkV l, .int .i64 x, .int .i64 place, .slice A zs.length c] w fun e w' => e = .returned (.bool true) ∧ Below w.heap.size w w' := by
  obtain ⟨L, ps, cl⟩ := l
  obtain ⟨hls, hlc, hlm⟩ := hl
  simp only at hls hlc hlm
  unfold maxLen at hm
  have HLS := Lib.hid hls
  have HLC := Lib.hid hlc
  have HLM : Hid (ps.length ≤ 9223372036854775807) := by unfold Hid; omega
  have HZS := Lib.hid hs
  have HZM : Hid (zs.length ≤ 9223372036854775807) := by unfold Hid; omega
  obtain ⟨⟨r, re⟩, hr⟩ : ∃ r : List Rk × Int, r = qaddR parts ps x := ⟨_, rfl⟩
  obtain ⟨⟨fv, fe⟩, hf⟩ : ∃ r : Int × Int, r = qfindR parts ps place := ⟨_, rfl⟩
  obtain ⟨⟨al, ae⟩, ha⟩ : ∃ r : List Rk × Int, r = qallR parts zs := ⟨_, rfl⟩
  have K1 : ∀ w1 : World, Below w.heap.size w w1 → Calls Try.prog 82 #[.int .i64 parts, .slice L ps.length cl, .int .i64 x] w1 (KOut w1.heap.size (r, re) w1) := fun w1 hb => by rw [hr]; exact add_any parts L ps cl x w1 ((hls.below hb).more hb.size) HLM.out
  have K2 : ∀ w1 : World, Below w.heap.size w w1 → Calls Try.prog 83 #[.int .i64 parts, .slice L ps.length cl, .int .i64 x] w1 (KOut w1.heap.size (r, re) w1) := fun w1 hb => by rw [hr]; exact oadd_any parts L ps cl x w1 ((hls.below hb).more hb.size) HLM.out
  have K3 : ∀ w1 : World, Below w.heap.size w w1 → Calls Try.prog 84 #[.int .i64 parts, .slice L ps.length cl, .int .i64 place] w1 (FOut (fv, fe) w1) := fun w1 hb => by rw [hf]; exact find_any parts L ps cl place w1 ((hls.below hb).more hb.size) HLM.out
  have K4 : ∀ w1 : World, Below w.heap.size w w1 → Calls Try.prog 85 #[.int .i64 parts, .slice L ps.length cl, .int .i64 place] w1 (FOut (fv, fe) w1) := fun w1 hb => by rw [hf]; exact ofind_any parts L ps cl place w1 ((hls.below hb).more hb.size) hlc HLM.out
  have K5 : ∀ w1 : World, Below w.heap.size w w1 → Calls Try.prog 86 #[.int .i64 parts, .slice A zs.length c] w1 (KOut w1.heap.size (al, ae) w1) := fun w1 hb => by rw [ha]; exact all_any parts A zs c w1 ((hs.below hb).more hb.size) HZM.out
  have K6 : ∀ w1 : World, Below w.heap.size w w1 → Calls Try.prog 87 #[.int .i64 parts, .slice L ps.length cl] w1 (fun e w' => e = .returned (.bool (qokB parts ps)) ∧ Below w1.heap.size w1 w') := fun w1 hb => right_any parts L ps cl w1 ((hls.below hb).more hb.size) HLM.out
  have K7 : ∀ w1 : World, Below w.heap.size w w1 → Calls Try.prog 88 #[.int .i64 parts, .slice L ps.length cl] w1 (fun e w' => e = .returned (.bool (qokB parts ps)) ∧ Below w1.heap.size w1 w') := fun w1 hb => oright_any parts L ps cl w1 ((hls.below hb).more hb.size) HLM.out
  have H1 := Lib.hid K1
  have H2 := Lib.hid K2
  have H3 := Lib.hid K3
  have H4 := Lib.hid K4
  have H5 := Lib.hid K5
  have H6 := Lib.hid K6
  have H7 := Lib.hid K7
  have HR := Lib.hid hr
  have HA := Lib.hid ha
  clear K1 K2 K3 K4 K5 K6 K7 hr hf ha hls hlc hlm hs hc hm hw hp hx hpl
  go_enter Try.func10, Try.ntmps10
  go_wp2_with fail
  refine (H1.out _ (Below.refl _ _)).mono ?_
  rintro e w1 ⟨v1, rfl, ho1, hb1⟩
  have B1 := Lib.hid hb1
  have O1 := Lib.hid ho1
  clear hb1 ho1
  go_wp2_with fail
  refine (H2.out _ B1.out).mono ?_
  rintro e w2 ⟨v2, rfl, ho2, hb2⟩
  have B2 := Lib.hid (B1.out.trans (hb2.mono B1.out.size))
  have O12 := Lib.hid (O1.out.below hb2 (Nat.le_refl _))
  have O2 := Lib.hid ho2
  clear hb2 ho2
  go_wp2_with fail
  refine (H3.out _ B2.out).mono ?_
  rintro e w3 ⟨rfl, hb3⟩
  have B3 := Lib.hid (B2.out.trans (hb3.mono B2.out.size))
  have O13 := Lib.hid (O12.out.below hb3 (Nat.le_refl _))
  have O23 := Lib.hid (O2.out.below hb3 (Nat.le_refl _))
  clear hb3
  go_wp2_with fail
  refine (H4.out _ B3.out).mono ?_
  rintro e w4 ⟨rfl, hb4⟩
  have B4 := Lib.hid (B3.out.trans (hb4.mono B3.out.size))
  have O14 := Lib.hid (O13.out.below hb4 (Nat.le_refl _))
  have O24 := Lib.hid (O23.out.below hb4 (Nat.le_refl _))
  clear hb4
  go_wp2_with fail
  refine (H5.out _ B4.out).mono ?_
  rintro e w5 ⟨v5, rfl, ho5, hb5⟩
  have B5 := Lib.hid (B4.out.trans (hb5.mono B4.out.size))
  have O15 := Lib.hid (O14.out.below hb5 (Nat.le_refl _))
  have O25 := Lib.hid (O24.out.below hb5 (Nat.le_refl _))
  have O5 := Lib.hid ho5
  clear hb5 ho5
  go_wp2_with fail
  refine (H6.out _ B5.out).mono ?_
  rintro e w6 ⟨rfl, hb6⟩
  have B6 := Lib.hid (B5.out.trans (hb6.mono B5.out.size))
  have O16 := Lib.hid (O15.out.below hb6 (Nat.le_refl _))
  have O26 := Lib.hid (O25.out.below hb6 (Nat.le_refl _))
  have O56 := Lib.hid (O5.out.below hb6 (Nat.le_refl _))
  clear hb6
  go_wp2_with fail
  refine (H7.out _ B6.out).mono ?_
  rintro e w7 ⟨rfl, hb7⟩
  have B7 := Lib.hid (B6.out.trans (hb7.mono B6.out.size))
  have O17 := Lib.hid (O16.out.below hb7 (Nat.le_refl _))
  have O27 := Lib.hid (O26.out.below hb7 (Nat.le_refl _))
  have O57 := Lib.hid (O56.out.below hb7 (Nat.le_refl _))
  clear hb7
  obtain ⟨A1, k1, rfl, _, s1⟩ := O17.out.seg
  obtain ⟨A2, k2, rfl, _, s2⟩ := O27.out.seg
  obtain ⟨A5, k5, rfl, _, s5⟩ := O57.out.seg
  have S1 := Lib.hid s1
  have S2 := Lib.hid s2
  have RL := Lib.hid O17.out.len
  have AL := Lib.hid O57.out.len
  have HEq : Hid (Calls Try.prog 89 #[.slice A1 r.length k1, .slice A2 r.length k2] w7 (fun e w' => e = .returned (.bool true) ∧ ∃ n, w' = w7.drewN n)) := by
    have h := eq_rks r r A1 A2 k1 k2 _ w7 S1.out S2.out RL.out
    rw [decide_eq_true rfl] at h
    exact h
  clear s1 s2 s5 O1 O2 O12 O13 O14 O15 O16 O23 O24 O25 O26 O5 O56
  by_cases hq : QOk parts ps
  · have HOK := Lib.hid hq
    have HRng : Hid (¬ (parts < 1 ∨ 100 < parts)) := by have := hq.lo; have := hq.hi; unfold Hid; omega
    have HQT := Lib.hid (qokT hq)
    have b1 : decide (parts < 1) = false := decide_eq_false (by have := hq.lo; omega)
    have b2 : decide (100 < parts) = false := decide_eq_false (by have := hq.hi; omega)
    rw [HQT.out] at H7 ⊢
    clear hq
    go_wp2_with fail
    refine HEq.out.mono ?_
    rintro e w8 ⟨rfl, n8, hw8⟩
    have B8 : Hid (Below w.heap.size w w8) := by unfold Hid; rw [hw8]; exact below_drewN B7.out _
    have O58 : Hid (Own3 w8 w4.heap.size (.slice A5 al.length k5) al) := by unfold Hid; rw [hw8]; exact O57.out.drewN _
    clear hw8
    go_wp2_with fail
    refine (H7.out _ B8.out).mono ?_
    rintro e w9 ⟨rfl, hb9⟩
    have B9 := Lib.hid (B8.out.trans (hb9.mono B8.out.size))
    have O59 := Lib.hid (O58.out.below hb9 (Nat.le_refl _))
    clear hb9
    go_wp2_with fail
    refine (count_any L ps cl w9 ((HLS.out.below B9.out).more B9.out.size) HOK.out.len HOK.out.one).mono ?_
    rintro e w10 ⟨rfl, hb10⟩
    have B10 := Lib.hid (B9.out.trans (hb10.mono B9.out.size))
    have O510 := Lib.hid (O59.out.below hb10 (Nat.le_refl _))
    clear hb10
    go_wp2_with fail
    refine (oall_any L ps cl w10 ((HLS.out.below B10.out).more B10.out.size) HOK.out.len HOK.out.one).mono ?_
    rintro e w11 ⟨rfl, hb11⟩
    have BX := Lib.hid (B10.out.trans (hb11.mono B10.out.size))
    have OX := Lib.hid (O510.out.below hb11 (Nat.le_refl _))
    clear hb11
    have HAQ : Hid ((al, ae) = qgo parts zs zs.length) := by unfold Hid; rw [HA.out]; exact if_neg HRng.out
    go_wp2_with fail
    clear b1 b2
    go_loopw [21, 115] (fun s21 s115 wx => ∃ (k : Nat) (q : List Rk), k ≤ zs.length ∧ s115 = .int .i64 k ∧ Hid (qgo parts zs k = (q, 0)) ∧ Hid (Own3 wx w.heap.size s21 q) ∧ Hid (Own3 wx w.heap.size (.slice A5 al.length k5) al) ∧ Hid (Below w.heap.size w wx)) (fun _ s115 _ => zs.length - (intOf s115).toNat)
    case atStart => exact ⟨0, [], Nat.zero_le _, rfl, rfl, Own3.none_, OX.out.rebase B4.out.size, BX.out⟩
    case round =>
      obtain ⟨k, q, hk, rfl, hg, ho, ho5, hb⟩ := hrel
      by_cases hlt : k < zs.length
      · have i1 : (k : Int) < (zs.length : Int) := by omega
        obtain ⟨ad, rfl, _, c0⟩ := HZS.out.int hlt
        have d0 := (hb.out.cell (block_lt c0)).trans c0
        have hgd : zs.getD k 0 = zs[k] := by simp [List.getD, hlt]
        obtain ⟨y, hy⟩ : ∃ y, y = zs[k] := ⟨_, rfl⟩
        rw [← hy] at d0 hgd
        have HGD := Lib.hid hgd
        have uk : Hid (wrap64 ((k : Int) + 1) = ((k + 1 : Nat) : Int)) := by have := HZM.out; exact qk64 (by omega)
        obtain ⟨A6, k6, rfl, _, hs6⟩ := ho.out.seg
        have HS6 := Lib.hid hs6
        have HLn := Lib.hid ho.out.len
        obtain ⟨⟨u, e⟩, hu⟩ : ∃ u : List Rk × Int, qaddR parts q y = u := ⟨_, rfl⟩
        have HU := Lib.hid hu
        have HK := Lib.hid (And.intro hk hlt)
        have hadd := oadd_any parts A6 q k6 y wr HS6.out HLn.out
        rw [HU.out] at hadd
        have HADD := Lib.hid hadd
        clear hgd hy hs6 hu hk hlt c0 hadd
        by_cases he : e = 0
        · subst he
          have HN : Hid (qgo parts zs (k + 1) = (u, 0)) := qgo_next hg.out (by rw [HGD.out]; exact HU.out)
          go_wp2_with fail
          refine HADD.out.mono ?_
          rintro e w1 ⟨v1, rfl, ho1, hb1⟩
          have HO1 := Lib.hid (ho1.rebase hb.out.size)
          have HB1 := Lib.hid (hb.out.trans (hb1.mono hb.out.size))
          have HO5 := Lib.hid (ho5.out.below hb1 (Nat.le_refl _))
          clear ho1 hb1
          go_wp2_with fail
          go_roundw
          case rel => exact ⟨k + 1, u, by have := HK.out; omega, by first | rfl | rw [uk.out], HN.out, HO1.out, HO5.out, HB1.out⟩
          case measure => (try rw [uk.out]); have := HK.out; simp [intOf]; omega
        · have HN : Hid ((al, ae) = ([], e)) := by unfold Hid; rw [HAQ.out]; exact qgo_fail hg.out (by rw [HGD.out]; exact HU.out) he HK.out.2
          have b1 : (e != 0) = true := by simpa using he
          have b2 : (e == 0) = false := by simpa using he
          obtain ⟨rfl, rfl⟩ : al = [] ∧ ae = e := by have := HN.out; injection this with h1 h2; exact ⟨h1, h2⟩
          clear he
          go_wp2_with fail
          refine HADD.out.mono ?_
          rintro e9 w1 ⟨v1, rfl, ho1, hb1⟩
          have HB1 := Lib.hid (hb.out.trans (hb1.mono hb.out.size))
          clear ho1 hb1
          go_wp2_with fail
          go_ret
          exact ⟨rfl, HB1.out⟩
      · obtain rfl : k = zs.length := by omega
        obtain ⟨rfl, rfl⟩ : al = q ∧ ae = 0 := by have := HAQ.out.trans hg.out; injection this with h1 h2; exact ⟨h1, h2⟩
        obtain ⟨A6, k6, rfl, _, hs6⟩ := ho.out.seg
        obtain ⟨A7, k7, e7, _, hs7⟩ := ho5.out.seg
        injection e7 with e7 _ e8
        subst e7
        subst e8
        have HS6 := Lib.hid hs6
        have HS7 := Lib.hid hs7
        have HE2 : Hid (Calls Try.prog 89 #[.slice A5 al.length k5, .slice A6 al.length k6] wr (fun e w' => e = .returned (.bool true) ∧ ∃ n, w' = wr.drewN n)) := by
          have h := eq_rks al al A5 A6 k5 k6 _ wr HS7.out HS6.out AL.out
          rw [decide_eq_true rfl] at h
          exact h
        clear hs6 hs7
        go_wp2_with fail
        refine HE2.out.mono ?_
        rintro e w8 ⟨rfl, n8, hw8⟩
        have B8x : Hid (Below w.heap.size w w8) := by unfold Hid; rw [hw8]; exact below_drewN hb.out _
        clear hw8
        go_wp2_with fail
        go_ret
        exact ⟨rfl, B8x.out⟩
  · have HQF := Lib.hid (qokF hq)
    rw [HQF.out] at H7 ⊢
    clear hq
    rcases (by omega : parts < 1 ∨ (¬ parts < 1 ∧ 100 < parts) ∨ (¬ parts < 1 ∧ ¬ 100 < parts)) with h | ⟨h, h'⟩ | ⟨h, h'⟩
    · have HAE : Hid ((al, ae) = ([], 2)) := by unfold Hid; rw [HA.out]; exact if_pos (.inl h)
      have b1 : decide (parts < 1) = true := decide_eq_true h
      clear h
      go_wp2_with fail
      refine HEq.out.mono ?_
      rintro e w8 ⟨rfl, n8, hw8⟩
      have B8 : Hid (Below w.heap.size w w8) := by unfold Hid; rw [hw8]; exact below_drewN B7.out _
      have O58 : Hid (Own3 w8 w4.heap.size (.slice A5 al.length k5) al) := by unfold Hid; rw [hw8]; exact O57.out.drewN _
      clear hw8
      go_wp2_with fail
      refine (H7.out _ B8.out).mono ?_
      rintro e w9 ⟨rfl, hb9⟩
      have B9 := Lib.hid (B8.out.trans (hb9.mono B8.out.size))
      have O59 := Lib.hid (O58.out.below hb9 (Nat.le_refl _))
      clear hb9
      obtain ⟨rfl, rfl⟩ : al = [] ∧ ae = 2 := by have := HAE.out; injection this with h1 h2; exact ⟨h1, h2⟩
      go_wp2_with fail
      go_ret
      exact ⟨rfl, B9.out⟩
    · have HAE : Hid ((al, ae) = ([], 2)) := by unfold Hid; rw [HA.out]; exact if_pos (.inr h')
      have b1 : decide (parts < 1) = false := decide_eq_false h
      have b2 : decide (100 < parts) = true := decide_eq_true h'
      clear h h'
      go_wp2_with fail
      refine HEq.out.mono ?_
      rintro e w8 ⟨rfl, n8, hw8⟩
      have B8 : Hid (Below w.heap.size w w8) := by unfold Hid; rw [hw8]; exact below_drewN B7.out _
      have O58 : Hid (Own3 w8 w4.heap.size (.slice A5 al.length k5) al) := by unfold Hid; rw [hw8]; exact O57.out.drewN _
      clear hw8
      go_wp2_with fail
      refine (H7.out _ B8.out).mono ?_
      rintro e w9 ⟨rfl, hb9⟩
      have B9 := Lib.hid (B8.out.trans (hb9.mono B8.out.size))
      have O59 := Lib.hid (O58.out.below hb9 (Nat.le_refl _))
      clear hb9
      obtain ⟨rfl, rfl⟩ : al = [] ∧ ae = 2 := by have := HAE.out; injection this with h1 h2; exact ⟨h1, h2⟩
      go_wp2_with fail
      go_ret
      exact ⟨rfl, B9.out⟩
    · have HRng : Hid (¬ (parts < 1 ∨ 100 < parts)) := by unfold Hid; omega
      have b1 : decide (parts < 1) = false := decide_eq_false h
      have b2 : decide (100 < parts) = false := decide_eq_false h'
      clear h h'
      go_wp2_with fail
      refine HEq.out.mono ?_
      rintro e w8 ⟨rfl, n8, hw8⟩
      have B8 : Hid (Below w.heap.size w w8) := by unfold Hid; rw [hw8]; exact below_drewN B7.out _
      have O58 : Hid (Own3 w8 w4.heap.size (.slice A5 al.length k5) al) := by unfold Hid; rw [hw8]; exact O57.out.drewN _
      clear hw8
      go_wp2_with fail
      refine (H7.out _ B8.out).mono ?_
      rintro e w9 ⟨rfl, hb9⟩
      have B9 := Lib.hid (B8.out.trans (hb9.mono B8.out.size))
      have O59 := Lib.hid (O58.out.below hb9 (Nat.le_refl _))
      clear hb9
      have BX := Lib.hid B9.out
      have OX := Lib.hid O59.out
      have HAQ : Hid ((al, ae) = qgo parts zs zs.length) := by unfold Hid; rw [HA.out]; exact if_neg HRng.out
      go_wp2_with fail
      clear b1 b2
      go_loopw [21, 115] (fun s21 s115 wx => ∃ (k : Nat) (q : List Rk), k ≤ zs.length ∧ s115 = .int .i64 k ∧ Hid (qgo parts zs k = (q, 0)) ∧ Hid (Own3 wx w.heap.size s21 q) ∧ Hid (Own3 wx w.heap.size (.slice A5 al.length k5) al) ∧ Hid (Below w.heap.size w wx)) (fun _ s115 _ => zs.length - (intOf s115).toNat)
      case atStart => exact ⟨0, [], Nat.zero_le _, rfl, rfl, Own3.none_, OX.out.rebase B4.out.size, BX.out⟩
      case round =>
        obtain ⟨k, q, hk, rfl, hg, ho, ho5, hb⟩ := hrel
        by_cases hlt : k < zs.length
        · have i1 : (k : Int) < (zs.length : Int) := by omega
          obtain ⟨ad, rfl, _, c0⟩ := HZS.out.int hlt
          have d0 := (hb.out.cell (block_lt c0)).trans c0
          have hgd : zs.getD k 0 = zs[k] := by simp [List.getD, hlt]
          obtain ⟨y, hy⟩ : ∃ y, y = zs[k] := ⟨_, rfl⟩
          rw [← hy] at d0 hgd
          have HGD := Lib.hid hgd
          have uk : Hid (wrap64 ((k : Int) + 1) = ((k + 1 : Nat) : Int)) := by have := HZM.out; exact qk64 (by omega)
          obtain ⟨A6, k6, rfl, _, hs6⟩ := ho.out.seg
          have HS6 := Lib.hid hs6
          have HLn := Lib.hid ho.out.len
          obtain ⟨⟨u, e⟩, hu⟩ : ∃ u : List Rk × Int, qaddR parts q y = u := ⟨_, rfl⟩
          have HU := Lib.hid hu
          have HK := Lib.hid (And.intro hk hlt)
          have hadd := oadd_any parts A6 q k6 y wr HS6.out HLn.out
          rw [HU.out] at hadd
          have HADD := Lib.hid hadd
          clear hgd hy hs6 hu hk hlt c0 hadd
          by_cases he : e = 0
          · subst he
            have HN : Hid (qgo parts zs (k + 1) = (u, 0)) := qgo_next hg.out (by rw [HGD.out]; exact HU.out)
            go_wp2_with fail
            refine HADD.out.mono ?_
            rintro e w1 ⟨v1, rfl, ho1, hb1⟩
            have HO1 := Lib.hid (ho1.rebase hb.out.size)
            have HB1 := Lib.hid (hb.out.trans (hb1.mono hb.out.size))
            have HO5 := Lib.hid (ho5.out.below hb1 (Nat.le_refl _))
            clear ho1 hb1
            go_wp2_with fail
            go_roundw
            case rel => exact ⟨k + 1, u, by have := HK.out; omega, by first | rfl | rw [uk.out], HN.out, HO1.out, HO5.out, HB1.out⟩
            case measure => (try rw [uk.out]); have := HK.out; simp [intOf]; omega
          · have HN : Hid ((al, ae) = ([], e)) := by unfold Hid; rw [HAQ.out]; exact qgo_fail hg.out (by rw [HGD.out]; exact HU.out) he HK.out.2
            have b1 : (e != 0) = true := by simpa using he
            have b2 : (e == 0) = false := by simpa using he
            obtain ⟨rfl, rfl⟩ : al = [] ∧ ae = e := by have := HN.out; injection this with h1 h2; exact ⟨h1, h2⟩
            clear he
            go_wp2_with fail
            refine HADD.out.mono ?_
            rintro e9 w1 ⟨v1, rfl, ho1, hb1⟩
            have HB1 := Lib.hid (hb.out.trans (hb1.mono hb.out.size))
            clear ho1 hb1
            go_wp2_with fail
            go_ret
            exact ⟨rfl, HB1.out⟩
        · obtain rfl : k = zs.length := by omega
          obtain ⟨rfl, rfl⟩ : al = q ∧ ae = 0 := by have := HAQ.out.trans hg.out; injection this with h1 h2; exact ⟨h1, h2⟩
          obtain ⟨A6, k6, rfl, _, hs6⟩ := ho.out.seg
          obtain ⟨A7, k7, e7, _, hs7⟩ := ho5.out.seg
          injection e7 with e7 _ e8
          subst e7
          subst e8
          have HS6 := Lib.hid hs6
          have HS7 := Lib.hid hs7
          have HE2 : Hid (Calls Try.prog 89 #[.slice A5 al.length k5, .slice A6 al.length k6] wr (fun e w' => e = .returned (.bool true) ∧ ∃ n, w' = wr.drewN n)) := by
            have h := eq_rks al al A5 A6 k5 k6 _ wr HS7.out HS6.out AL.out
            rw [decide_eq_true rfl] at h
            exact h
          clear hs6 hs7
          go_wp2_with fail
          refine HE2.out.mono ?_
          rintro e w8 ⟨rfl, n8, hw8⟩
          have B8x : Hid (Below w.heap.size w w8) := by unfold Hid; rw [hw8]; exact below_drewN hb.out _
          clear hw8
          go_wp2_with fail
          go_ret
          exact ⟨rfl, B8x.out⟩
end Go.Proofs.Ytaehehoeidnidaa
