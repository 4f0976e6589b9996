/- PermDeals: the law's function, walked. No condition. -/
import Derived.Test.YtmcbkjepjijfjaaPerC
import Derived.Test.YtmcbkjepjijfjaaPerD
import Derived.Test.YtmcbkjepjijfjaaPerE
import Derived.Test.YtmcbkjepjijfjaaSeqE
namespace Go.Proofs.Ytmcbkjepjijfjaa
open Go.ChangeShapes Go.WideShapes Go.ChangeAt Go.RowKit
set_option linter.unusedVariables false

set_option maxRecDepth 20000 in
set_option maxHeartbeats 4000000 in
theorem deals_no (d p q LD LC LT LB : List Int) (ED : Int) (A C E : Option Addr) (c c2 c3 : Nat) (w : World) (hd : Seg w w.heap.size A (d.map (.int .i64))) (hp : Seg w w.heap.size C (p.map (.int .i64))) (hq : Seg w w.heap.size E (q.map (.int .i64))) (hld : LD.length ≤ 9223372036854775807)
    (h1 : ∀ u, Seg u u.heap.size A (d.map (.int .i64)) → Calls Try.prog 20 #[.slice A d.length c] u fun e w' => SOut u w' e LD ED)
    (h2 : ∀ u, Seg u u.heap.size A (d.map (.int .i64)) → Calls Try.prog 21 #[.slice A d.length c] u fun e w' => SOut u w' e LD ED)
    (h3 : ∀ u, Seg u u.heap.size C (p.map (.int .i64)) → Calls Try.prog 22 #[.slice C p.length c2] u fun e w' => SOut u w' e [] 1)
    (h4 : ∀ u, Seg u u.heap.size C (p.map (.int .i64)) → Seg u u.heap.size E (q.map (.int .i64)) → Calls Try.prog 23 #[.slice C p.length c2, .slice E q.length c3] u fun e w' => SOut u w' e [] 1)
    (h5 : ∀ u, Seg u u.heap.size C (p.map (.int .i64)) → Calls Try.prog 24 #[.slice C p.length c2] u fun e w' => SOut u w' e [] 1)
    (h6 : ∀ u, Seg u u.heap.size C (p.map (.int .i64)) → Calls Try.prog 25 #[.slice C p.length c2] u fun e w' => e = .returned (.bool false) ∧ Below u.heap.size u w')
    (h7 : ∀ u, Seg u u.heap.size C (p.map (.int .i64)) → Calls Try.prog 26 #[.slice C p.length c2] u fun e w' => e = .returned (.bool false) ∧ u = w')
    :
    Calls Try.prog 4 #[.slice A d.length c, .slice C p.length c2, .slice E q.length c3] w fun e w' => e = .returned (.bool true) ∧ Below w.heap.size w w' := by
  have HD0 := Lib.hid hd
  have HP0 := Lib.hid hp
  have HQ0 := Lib.hid hq
  have H1 := Lib.hid h1
  have H2 := Lib.hid h2
  have H3 := Lib.hid h3
  have H4 := Lib.hid h4
  have H5 := Lib.hid h5
  have H6 := Lib.hid h6
  have H7 := Lib.hid h7
  have HB0 := Lib.hid (Below.refl w.heap.size w)
  have b1 : (ED != ED) = false := by simp
  clear hd hp hq h1 h2 h3 h4 h5 h6 h7
  go_enter Try.func4, Try.ntmps4
  go_wp2_with fail
  refine (H1.out _ HD0.out).mono ?_
  rintro e w1 ⟨A1, k1, rfl, hk1, hsg, hb⟩
  have HR1_1 := Lib.hid hsg
  have HB1 : Hid (Below w.heap.size w w1) := HB0.out.trans (hb.mono HB0.out.size)
  have HD1 := Lib.hid (HD0.out.on hb)
  have HP1 := Lib.hid (HP0.out.on hb)
  have HQ1 := Lib.hid (HQ0.out.on hb)
  clear hsg hb
  go_wp2_with fail
  refine (H2.out _ HD1.out).mono ?_
  rintro e w2 ⟨A2, k2, rfl, hk2, hsg, hb⟩
  have HR2_2 := Lib.hid hsg
  have HB2 : Hid (Below w.heap.size w w2) := HB1.out.trans (hb.mono HB1.out.size)
  have HD2 := Lib.hid (HD1.out.on hb)
  have HP2 := Lib.hid (HP1.out.on hb)
  have HQ2 := Lib.hid (HQ1.out.on hb)
  have HR1_2 := Lib.hid (HR1_1.out.on hb)
  clear hsg hb
  go_wp2_with fail
  refine (H3.out _ HP2.out).mono ?_
  rintro e w3 ⟨A3, k3, rfl, hk3, hsg, hb⟩
  have HR3_3 := Lib.hid hsg
  have HB3 : Hid (Below w.heap.size w w3) := HB2.out.trans (hb.mono HB2.out.size)
  have HD3 := Lib.hid (HD2.out.on hb)
  have HP3 := Lib.hid (HP2.out.on hb)
  have HQ3 := Lib.hid (HQ2.out.on hb)
  have HR1_3 := Lib.hid (HR1_2.out.on hb)
  have HR2_3 := Lib.hid (HR2_2.out.on hb)
  clear hsg hb
  go_wp2_with fail
  refine (H4.out _ HP3.out HQ3.out).mono ?_
  rintro e w4 ⟨A4, k4, rfl, hk4, hsg, hb⟩
  have HR4_4 := Lib.hid hsg
  have HB4 : Hid (Below w.heap.size w w4) := HB3.out.trans (hb.mono HB3.out.size)
  have HD4 := Lib.hid (HD3.out.on hb)
  have HP4 := Lib.hid (HP3.out.on hb)
  have HQ4 := Lib.hid (HQ3.out.on hb)
  have HR1_4 := Lib.hid (HR1_3.out.on hb)
  have HR2_4 := Lib.hid (HR2_3.out.on hb)
  have HR3_4 := Lib.hid (HR3_3.out.on hb)
  clear hsg hb
  go_wp2_with fail
  refine (H5.out _ HP4.out).mono ?_
  rintro e w5 ⟨A5, k5, rfl, hk5, hsg, hb⟩
  have HR5_5 := Lib.hid hsg
  have HB5 : Hid (Below w.heap.size w w5) := HB4.out.trans (hb.mono HB4.out.size)
  have HD5 := Lib.hid (HD4.out.on hb)
  have HP5 := Lib.hid (HP4.out.on hb)
  have HQ5 := Lib.hid (HQ4.out.on hb)
  have HR1_5 := Lib.hid (HR1_4.out.on hb)
  have HR2_5 := Lib.hid (HR2_4.out.on hb)
  have HR3_5 := Lib.hid (HR3_4.out.on hb)
  have HR4_5 := Lib.hid (HR4_4.out.on hb)
  clear hsg hb
  go_wp2_with fail
  refine (H6.out _ HP5.out).mono ?_
  rintro e w6 ⟨rfl, hb⟩
  have HB6 : Hid (Below w.heap.size w w6) := HB5.out.trans (hb.mono HB5.out.size)
  have HD6 := Lib.hid (HD5.out.on hb)
  have HP6 := Lib.hid (HP5.out.on hb)
  have HQ6 := Lib.hid (HQ5.out.on hb)
  have HR1_6 := Lib.hid (HR1_5.out.on hb)
  have HR2_6 := Lib.hid (HR2_5.out.on hb)
  have HR3_6 := Lib.hid (HR3_5.out.on hb)
  have HR4_6 := Lib.hid (HR4_5.out.on hb)
  have HR5_6 := Lib.hid (HR5_5.out.on hb)
  clear hb
  go_wp2_with fail
  refine (H7.out _ HP6.out).mono ?_
  rintro e w' ⟨rfl, rfl⟩
  go_wp2_with fail
  refine (eq_same LD A1 A2 k1 k2 _ HR1_6.out HR2_6.out hld).mono ?_
  rintro e w' ⟨rfl, n7, rfl⟩
  have HB7 : Hid (Below w.heap.size w (w6.drewN n7)) := below_drewN HB6.out n7
  have HD7 : Hid (Seg (w6.drewN n7) (w6.drewN n7).heap.size A (d.map (.int .i64))) := HD6.out
  have HP7 : Hid (Seg (w6.drewN n7) (w6.drewN n7).heap.size C (p.map (.int .i64))) := HP6.out
  have HQ7 : Hid (Seg (w6.drewN n7) (w6.drewN n7).heap.size E (q.map (.int .i64))) := HQ6.out
  have HR3_7 : Hid (Seg (w6.drewN n7) (w6.drewN n7).heap.size A3 (([] : List Int).map (.int .i64))) := HR3_6.out
  have HR4_7 : Hid (Seg (w6.drewN n7) (w6.drewN n7).heap.size A4 (([] : List Int).map (.int .i64))) := HR4_6.out
  have HR5_7 : Hid (Seg (w6.drewN n7) (w6.drewN n7).heap.size A5 (([] : List Int).map (.int .i64))) := HR5_6.out
  generalize w6.drewN n7 = w7 at *
  go_wp2_with fail
  refine (H7.out _ HP7.out).mono ?_
  rintro e w' ⟨rfl, rfl⟩
  go_wp2_with fail
  go_ret
  exact ⟨rfl, HB7.out⟩
set_option maxRecDepth 20000 in
set_option maxHeartbeats 4000000 in
theorem deals_q (d p q LD LC LT LB : List Int) (ED : Int) (A C E : Option Addr) (c c2 c3 : Nat) (w : World) (hd : Seg w w.heap.size A (d.map (.int .i64))) (hp : Seg w w.heap.size C (p.map (.int .i64))) (hq : Seg w w.heap.size E (q.map (.int .i64))) (hld : LD.length ≤ 9223372036854775807)
    (h1 : ∀ u, Seg u u.heap.size A (d.map (.int .i64)) → Calls Try.prog 20 #[.slice A d.length c] u fun e w' => SOut u w' e LD ED)
    (h2 : ∀ u, Seg u u.heap.size A (d.map (.int .i64)) → Calls Try.prog 21 #[.slice A d.length c] u fun e w' => SOut u w' e LD ED)
    (h3 : ∀ u, Seg u u.heap.size C (p.map (.int .i64)) → Calls Try.prog 22 #[.slice C p.length c2] u fun e w' => SOut u w' e LC 0)
    (h4 : ∀ u, Seg u u.heap.size C (p.map (.int .i64)) → Seg u u.heap.size E (q.map (.int .i64)) → Calls Try.prog 23 #[.slice C p.length c2, .slice E q.length c3] u fun e w' => SOut u w' e [] 1)
    (h5 : ∀ u, Seg u u.heap.size C (p.map (.int .i64)) → Calls Try.prog 24 #[.slice C p.length c2] u fun e w' => SOut u w' e LB 0)
    (h6 : ∀ u, Seg u u.heap.size C (p.map (.int .i64)) → Calls Try.prog 25 #[.slice C p.length c2] u fun e w' => e = .returned (.bool true) ∧ Below u.heap.size u w')
    (h7 : ∀ u, Seg u u.heap.size C (p.map (.int .i64)) → Calls Try.prog 26 #[.slice C p.length c2] u fun e w' => e = .returned (.bool true) ∧ u = w')
    (Q : Bool) (hpc : p.length ≤ c2) (hpl : p.length ≤ 20) (hc : LC.length = p.length) (hb : LB.length = p.length)
    (hf : ∀ k, k < p.length → 0 ≤ pat p k ∧ pat p k < p.length ∧ pat LC k = (lessn (p.drop k) (pat p k) (p.drop k).length : Nat) ∧ pat LB (pat p k).toNat = k)
    (hqr : ∀ u, Seg u u.heap.size E (q.map (.int .i64)) → Calls Try.prog 26 #[.slice E q.length c3] u fun e w' => e = .returned (.bool Q) ∧ u = w') (hno : Q = false ∨ (Q = true ∧ p.length ≠ q.length)) :
    Calls Try.prog 4 #[.slice A d.length c, .slice C p.length c2, .slice E q.length c3] w fun e w' => e = .returned (.bool true) ∧ Below w.heap.size w w' := by
  have HD0 := Lib.hid hd
  have HP0 := Lib.hid hp
  have HQ0 := Lib.hid hq
  have H1 := Lib.hid h1
  have H2 := Lib.hid h2
  have H3 := Lib.hid h3
  have H4 := Lib.hid h4
  have H5 := Lib.hid h5
  have H6 := Lib.hid h6
  have H7 := Lib.hid h7
  have HB0 := Lib.hid (Below.refl w.heap.size w)
  have b1 : (ED != ED) = false := by simp
  clear hd hp hq h1 h2 h3 h4 h5 h6 h7
  have FK := Lib.hid hf
  have FC := Lib.hid hc
  have FB := Lib.hid hb
  have HQR := Lib.hid hqr
  have b2 : ((LC.length : Int) != (p.length : Int)) = false := by rw [hc]; simp
  have b3 : ((LB.length : Int) != (p.length : Int)) = false := by rw [hb]; simp
  clear hf hc hb hqr
  go_enter Try.func4, Try.ntmps4
  go_wp2_with fail
  refine (H1.out _ HD0.out).mono ?_
  rintro e w1 ⟨A1, k1, rfl, hk1, hsg, hb⟩
  have HR1_1 := Lib.hid hsg
  have HB1 : Hid (Below w.heap.size w w1) := HB0.out.trans (hb.mono HB0.out.size)
  have HD1 := Lib.hid (HD0.out.on hb)
  have HP1 := Lib.hid (HP0.out.on hb)
  have HQ1 := Lib.hid (HQ0.out.on hb)
  clear hsg hb
  go_wp2_with fail
  refine (H2.out _ HD1.out).mono ?_
  rintro e w2 ⟨A2, k2, rfl, hk2, hsg, hb⟩
  have HR2_2 := Lib.hid hsg
  have HB2 : Hid (Below w.heap.size w w2) := HB1.out.trans (hb.mono HB1.out.size)
  have HD2 := Lib.hid (HD1.out.on hb)
  have HP2 := Lib.hid (HP1.out.on hb)
  have HQ2 := Lib.hid (HQ1.out.on hb)
  have HR1_2 := Lib.hid (HR1_1.out.on hb)
  clear hsg hb
  go_wp2_with fail
  refine (H3.out _ HP2.out).mono ?_
  rintro e w3 ⟨A3, k3, rfl, hk3, hsg, hb⟩
  have HR3_3 := Lib.hid hsg
  have HB3 : Hid (Below w.heap.size w w3) := HB2.out.trans (hb.mono HB2.out.size)
  have HD3 := Lib.hid (HD2.out.on hb)
  have HP3 := Lib.hid (HP2.out.on hb)
  have HQ3 := Lib.hid (HQ2.out.on hb)
  have HR1_3 := Lib.hid (HR1_2.out.on hb)
  have HR2_3 := Lib.hid (HR2_2.out.on hb)
  clear hsg hb
  go_wp2_with fail
  refine (H4.out _ HP3.out HQ3.out).mono ?_
  rintro e w4 ⟨A4, k4, rfl, hk4, hsg, hb⟩
  have HR4_4 := Lib.hid hsg
  have HB4 : Hid (Below w.heap.size w w4) := HB3.out.trans (hb.mono HB3.out.size)
  have HD4 := Lib.hid (HD3.out.on hb)
  have HP4 := Lib.hid (HP3.out.on hb)
  have HQ4 := Lib.hid (HQ3.out.on hb)
  have HR1_4 := Lib.hid (HR1_3.out.on hb)
  have HR2_4 := Lib.hid (HR2_3.out.on hb)
  have HR3_4 := Lib.hid (HR3_3.out.on hb)
  clear hsg hb
  go_wp2_with fail
  refine (H5.out _ HP4.out).mono ?_
  rintro e w5 ⟨A5, k5, rfl, hk5, hsg, hb⟩
  have HR5_5 := Lib.hid hsg
  have HB5 : Hid (Below w.heap.size w w5) := HB4.out.trans (hb.mono HB4.out.size)
  have HD5 := Lib.hid (HD4.out.on hb)
  have HP5 := Lib.hid (HP4.out.on hb)
  have HQ5 := Lib.hid (HQ4.out.on hb)
  have HR1_5 := Lib.hid (HR1_4.out.on hb)
  have HR2_5 := Lib.hid (HR2_4.out.on hb)
  have HR3_5 := Lib.hid (HR3_4.out.on hb)
  have HR4_5 := Lib.hid (HR4_4.out.on hb)
  clear hsg hb
  go_wp2_with fail
  refine (H6.out _ HP5.out).mono ?_
  rintro e w6 ⟨rfl, hb⟩
  have HB6 : Hid (Below w.heap.size w w6) := HB5.out.trans (hb.mono HB5.out.size)
  have HD6 := Lib.hid (HD5.out.on hb)
  have HP6 := Lib.hid (HP5.out.on hb)
  have HQ6 := Lib.hid (HQ5.out.on hb)
  have HR1_6 := Lib.hid (HR1_5.out.on hb)
  have HR2_6 := Lib.hid (HR2_5.out.on hb)
  have HR3_6 := Lib.hid (HR3_5.out.on hb)
  have HR4_6 := Lib.hid (HR4_5.out.on hb)
  have HR5_6 := Lib.hid (HR5_5.out.on hb)
  clear hb
  go_wp2_with fail
  refine (H7.out _ HP6.out).mono ?_
  rintro e w' ⟨rfl, rfl⟩
  go_wp2_with fail
  refine (eq_same LD A1 A2 k1 k2 _ HR1_6.out HR2_6.out hld).mono ?_
  rintro e w' ⟨rfl, n7, rfl⟩
  have HB7 : Hid (Below w.heap.size w (w6.drewN n7)) := below_drewN HB6.out n7
  have HD7 : Hid (Seg (w6.drewN n7) (w6.drewN n7).heap.size A (d.map (.int .i64))) := HD6.out
  have HP7 : Hid (Seg (w6.drewN n7) (w6.drewN n7).heap.size C (p.map (.int .i64))) := HP6.out
  have HQ7 : Hid (Seg (w6.drewN n7) (w6.drewN n7).heap.size E (q.map (.int .i64))) := HQ6.out
  have HR3_7 : Hid (Seg (w6.drewN n7) (w6.drewN n7).heap.size A3 ((LC : List Int).map (.int .i64))) := HR3_6.out
  have HR4_7 : Hid (Seg (w6.drewN n7) (w6.drewN n7).heap.size A4 (([] : List Int).map (.int .i64))) := HR4_6.out
  have HR5_7 : Hid (Seg (w6.drewN n7) (w6.drewN n7).heap.size A5 ((LB : List Int).map (.int .i64))) := HR5_6.out
  generalize w6.drewN n7 = w7 at *
  go_wp2_with fail
  refine (H7.out _ HP7.out).mono ?_
  rintro e w' ⟨rfl, rfl⟩
  go_wp2_with fail
  go_loop [115] (fun s115 => ∃ k : Nat, k ≤ p.length ∧ s115 = .int .i64 k) (fun s115 => p.length - (intOf s115).toNat)
  case atStart => exact ⟨0, Nat.zero_le _, rfl⟩
  case round =>
    obtain ⟨k, hk, rfl⟩ := hrel
    by_cases hlt : k < p.length
    · have i2 : (k : Int) < (p.length : Int) := by omega
      have hfk := FK.out k hlt
      obtain ⟨A', hsl, hsg⟩ := slice_from HP7.out (l := k) (c := c2) (k : Int) rfl (by omega) hpc
      obtain ⟨ad, rfl, _, hcell⟩ := HP7.out.pat hlt
      obtain ⟨ac, rfl, _, hcc⟩ := HR3_7.out.pat (show k < LC.length by rw [FC.out]; exact hlt)
      obtain ⟨X, hX⟩ : ∃ X : Nat, pat p k = X := ⟨(pat p k).toNat, by omega⟩
      rw [hX] at hfk hcell
      rw [Int.toNat_natCast] at hfk
      obtain ⟨hf1, hf2, hf3, hf4⟩ := hfk
      have hXb : X < LB.length := by rw [FB.out]; omega
      obtain ⟨ab, rfl, _, hcb⟩ := HR5_7.out.pat hXb
      rw [hf3] at hcc
      rw [hf4] at hcb
      have HSG := Lib.hid hsg
      have hyl : (p.drop k).length ≤ 20 := by rw [List.length_drop]; omega
      have i4 : (X : Int) < (LB.length : Int) := by omega
      have i5 : (k : Int) < (LC.length : Int) := by rw [FC.out]; omega
      have b7 : ((k : Int) != (k : Int)) = false := by simp
      clear hsg hX hf1 hf2 hf3 hf4
      have hnb := lessn_le (p.drop k) X (p.drop k).length
      have b8 : (((lessn (p.drop k) X (p.drop k).length : Nat) : Int) != ((lessn (p.drop k) X (p.drop k).length : Nat) : Int)) = false := by simp
      have HM : Hid (∃ m, lessn (p.drop k) X (p.drop k).length = m) := ⟨_, rfl⟩
      generalize p.drop k = ys at *
      go_wp2_with fail
      clear hsl hcell
      go_loop [19, 124] (fun s19 s124 => ∃ i : Nat, i ≤ ys.length ∧ s124 = .int .i64 i ∧ s19 = .int .i64 (lessn ys X i : Nat)) (fun _ s124 => ys.length - (intOf s124).toNat)
      case atStart => exact ⟨0, Nat.zero_le _, rfl, rfl⟩
      case round =>
        obtain ⟨i, hi, rfl, rfl⟩ := hrel
        by_cases hlt2 : i < ys.length
        · have i3 : (i : Int) < (ys.length : Int) := by omega
          obtain ⟨ae, rfl, _, hcell⟩ := HSG.out.pat hlt2
          have HST : Hid (lessn ys X (i + 1) = lessn ys X i + if pat ys i < X then 1 else 0) := rfl
          have hln := lessn_le ys X i
          generalize pat ys i = y at *
          generalize lessn ys X i = n at *
          by_cases hxy : y < (X : Int)
          · have HX : Hid (lessn ys X (i + 1) = n + 1) := by unfold Hid; rw [HST.out, if_pos hxy]
            go_wp2_with fail
            go_round
            case rel => exact ⟨i + 1, by omega, by go_num, by rw [HX.out]; go_num⟩
            case measure => simp [intOf]; omega
          · have HX : Hid (lessn ys X (i + 1) = n) := by unfold Hid; rw [HST.out, if_neg hxy]; rfl
            go_wp2_with fail
            go_round
            case rel => exact ⟨i + 1, by omega, by go_num, by rw [HX.out]⟩
            case measure => simp [intOf]; omega
        · have i3 : ¬ (i : Int) < (ys.length : Int) := by omega
          have HI : Hid (i = ys.length) := by unfold Hid; omega
          obtain rfl : i = ys.length := HI.out
          generalize lessn ys X ys.length = m at *
          go_wp2_with fail
          go_round
          case rel => exact ⟨k + 1, by omega, by go_num⟩
          case measure => simp [intOf]; omega
    · have i2 : ¬ (k : Int) < (p.length : Int) := by omega
      have HK : Hid (k = p.length) := by unfold Hid; omega
      rcases hno with rfl | ⟨rfl, hne⟩
      · go_wp2_with fail
        refine (HQR.out _ HQ7.out).mono ?_
        rintro e w' ⟨rfl, rfl⟩
        go_wp2_with fail
        go_ret
        exact ⟨rfl, HB7.out⟩
      · have b4 : ((p.length : Int) != (q.length : Int)) = true := by simp; omega
        go_wp2_with fail
        refine (HQR.out _ HQ7.out).mono ?_
        rintro e w' ⟨rfl, rfl⟩
        go_wp2_with fail
        go_ret
        exact ⟨rfl, HB7.out⟩
set_option maxRecDepth 20000 in
set_option maxHeartbeats 4000000 in
theorem deals_all (d p q LD LC LT LB : List Int) (ED : Int) (A C E : Option Addr) (c c2 c3 : Nat) (w : World) (hd : Seg w w.heap.size A (d.map (.int .i64))) (hp : Seg w w.heap.size C (p.map (.int .i64))) (hq : Seg w w.heap.size E (q.map (.int .i64))) (hld : LD.length ≤ 9223372036854775807)
    (h1 : ∀ u, Seg u u.heap.size A (d.map (.int .i64)) → Calls Try.prog 20 #[.slice A d.length c] u fun e w' => SOut u w' e LD ED)
    (h2 : ∀ u, Seg u u.heap.size A (d.map (.int .i64)) → Calls Try.prog 21 #[.slice A d.length c] u fun e w' => SOut u w' e LD ED)
    (h3 : ∀ u, Seg u u.heap.size C (p.map (.int .i64)) → Calls Try.prog 22 #[.slice C p.length c2] u fun e w' => SOut u w' e LC 0)
    (h4 : ∀ u, Seg u u.heap.size C (p.map (.int .i64)) → Seg u u.heap.size E (q.map (.int .i64)) → Calls Try.prog 23 #[.slice C p.length c2, .slice E q.length c3] u fun e w' => SOut u w' e LT 0)
    (h5 : ∀ u, Seg u u.heap.size C (p.map (.int .i64)) → Calls Try.prog 24 #[.slice C p.length c2] u fun e w' => SOut u w' e LB 0)
    (h6 : ∀ u, Seg u u.heap.size C (p.map (.int .i64)) → Calls Try.prog 25 #[.slice C p.length c2] u fun e w' => e = .returned (.bool true) ∧ Below u.heap.size u w')
    (h7 : ∀ u, Seg u u.heap.size C (p.map (.int .i64)) → Calls Try.prog 26 #[.slice C p.length c2] u fun e w' => e = .returned (.bool true) ∧ u = w')
    (Q : Bool) (hpc : p.length ≤ c2) (hpl : p.length ≤ 20) (hc : LC.length = p.length) (hb : LB.length = p.length)
    (hf : ∀ k, k < p.length → 0 ≤ pat p k ∧ pat p k < p.length ∧ pat LC k = (lessn (p.drop k) (pat p k) (p.drop k).length : Nat) ∧ pat LB (pat p k).toNat = k)
    (hqr : ∀ u, Seg u u.heap.size E (q.map (.int .i64)) → Calls Try.prog 26 #[.slice E q.length c3] u fun e w' => e = .returned (.bool Q) ∧ u = w') (hQ : Q = true) (hne : p.length = q.length) (hlt : LT = tab (fun k => pat q (pat p k).toNat) p.length) :
    Calls Try.prog 4 #[.slice A d.length c, .slice C p.length c2, .slice E q.length c3] w fun e w' => e = .returned (.bool true) ∧ Below w.heap.size w w' := by
  have HD0 := Lib.hid hd
  have HP0 := Lib.hid hp
  have HQ0 := Lib.hid hq
  have H1 := Lib.hid h1
  have H2 := Lib.hid h2
  have H3 := Lib.hid h3
  have H4 := Lib.hid h4
  have H5 := Lib.hid h5
  have H6 := Lib.hid h6
  have H7 := Lib.hid h7
  have HB0 := Lib.hid (Below.refl w.heap.size w)
  have b1 : (ED != ED) = false := by simp
  clear hd hp hq h1 h2 h3 h4 h5 h6 h7
  have FK := Lib.hid hf
  have FC := Lib.hid hc
  have FB := Lib.hid hb
  have HQR := Lib.hid hqr
  have b2 : ((LC.length : Int) != (p.length : Int)) = false := by rw [hc]; simp
  have b3 : ((LB.length : Int) != (p.length : Int)) = false := by rw [hb]; simp
  clear hf hc hb hqr
  subst hQ
  have b4 : ((p.length : Int) != (q.length : Int)) = false := by rw [hne]; simp
  have HNE := Lib.hid hne
  have HLT := Lib.hid hlt
  have hpq : p.length ≤ q.length := by omega
  clear hne hlt
  go_enter Try.func4, Try.ntmps4
  go_wp2_with fail
  refine (H1.out _ HD0.out).mono ?_
  rintro e w1 ⟨A1, k1, rfl, hk1, hsg, hb⟩
  have HR1_1 := Lib.hid hsg
  have HB1 : Hid (Below w.heap.size w w1) := HB0.out.trans (hb.mono HB0.out.size)
  have HD1 := Lib.hid (HD0.out.on hb)
  have HP1 := Lib.hid (HP0.out.on hb)
  have HQ1 := Lib.hid (HQ0.out.on hb)
  clear hsg hb
  go_wp2_with fail
  refine (H2.out _ HD1.out).mono ?_
  rintro e w2 ⟨A2, k2, rfl, hk2, hsg, hb⟩
  have HR2_2 := Lib.hid hsg
  have HB2 : Hid (Below w.heap.size w w2) := HB1.out.trans (hb.mono HB1.out.size)
  have HD2 := Lib.hid (HD1.out.on hb)
  have HP2 := Lib.hid (HP1.out.on hb)
  have HQ2 := Lib.hid (HQ1.out.on hb)
  have HR1_2 := Lib.hid (HR1_1.out.on hb)
  clear hsg hb
  go_wp2_with fail
  refine (H3.out _ HP2.out).mono ?_
  rintro e w3 ⟨A3, k3, rfl, hk3, hsg, hb⟩
  have HR3_3 := Lib.hid hsg
  have HB3 : Hid (Below w.heap.size w w3) := HB2.out.trans (hb.mono HB2.out.size)
  have HD3 := Lib.hid (HD2.out.on hb)
  have HP3 := Lib.hid (HP2.out.on hb)
  have HQ3 := Lib.hid (HQ2.out.on hb)
  have HR1_3 := Lib.hid (HR1_2.out.on hb)
  have HR2_3 := Lib.hid (HR2_2.out.on hb)
  clear hsg hb
  go_wp2_with fail
  refine (H4.out _ HP3.out HQ3.out).mono ?_
  rintro e w4 ⟨A4, k4, rfl, hk4, hsg, hb⟩
  have HR4_4 := Lib.hid hsg
  have HB4 : Hid (Below w.heap.size w w4) := HB3.out.trans (hb.mono HB3.out.size)
  have HD4 := Lib.hid (HD3.out.on hb)
  have HP4 := Lib.hid (HP3.out.on hb)
  have HQ4 := Lib.hid (HQ3.out.on hb)
  have HR1_4 := Lib.hid (HR1_3.out.on hb)
  have HR2_4 := Lib.hid (HR2_3.out.on hb)
  have HR3_4 := Lib.hid (HR3_3.out.on hb)
  clear hsg hb
  go_wp2_with fail
  refine (H5.out _ HP4.out).mono ?_
  rintro e w5 ⟨A5, k5, rfl, hk5, hsg, hb⟩
  have HR5_5 := Lib.hid hsg
  have HB5 : Hid (Below w.heap.size w w5) := HB4.out.trans (hb.mono HB4.out.size)
  have HD5 := Lib.hid (HD4.out.on hb)
  have HP5 := Lib.hid (HP4.out.on hb)
  have HQ5 := Lib.hid (HQ4.out.on hb)
  have HR1_5 := Lib.hid (HR1_4.out.on hb)
  have HR2_5 := Lib.hid (HR2_4.out.on hb)
  have HR3_5 := Lib.hid (HR3_4.out.on hb)
  have HR4_5 := Lib.hid (HR4_4.out.on hb)
  clear hsg hb
  go_wp2_with fail
  refine (H6.out _ HP5.out).mono ?_
  rintro e w6 ⟨rfl, hb⟩
  have HB6 : Hid (Below w.heap.size w w6) := HB5.out.trans (hb.mono HB5.out.size)
  have HD6 := Lib.hid (HD5.out.on hb)
  have HP6 := Lib.hid (HP5.out.on hb)
  have HQ6 := Lib.hid (HQ5.out.on hb)
  have HR1_6 := Lib.hid (HR1_5.out.on hb)
  have HR2_6 := Lib.hid (HR2_5.out.on hb)
  have HR3_6 := Lib.hid (HR3_5.out.on hb)
  have HR4_6 := Lib.hid (HR4_5.out.on hb)
  have HR5_6 := Lib.hid (HR5_5.out.on hb)
  clear hb
  go_wp2_with fail
  refine (H7.out _ HP6.out).mono ?_
  rintro e w' ⟨rfl, rfl⟩
  go_wp2_with fail
  refine (eq_same LD A1 A2 k1 k2 _ HR1_6.out HR2_6.out hld).mono ?_
  rintro e w' ⟨rfl, n7, rfl⟩
  have HB7 : Hid (Below w.heap.size w (w6.drewN n7)) := below_drewN HB6.out n7
  have HD7 : Hid (Seg (w6.drewN n7) (w6.drewN n7).heap.size A (d.map (.int .i64))) := HD6.out
  have HP7 : Hid (Seg (w6.drewN n7) (w6.drewN n7).heap.size C (p.map (.int .i64))) := HP6.out
  have HQ7 : Hid (Seg (w6.drewN n7) (w6.drewN n7).heap.size E (q.map (.int .i64))) := HQ6.out
  have HR3_7 : Hid (Seg (w6.drewN n7) (w6.drewN n7).heap.size A3 ((LC : List Int).map (.int .i64))) := HR3_6.out
  have HR4_7 : Hid (Seg (w6.drewN n7) (w6.drewN n7).heap.size A4 ((LT : List Int).map (.int .i64))) := HR4_6.out
  have HR5_7 : Hid (Seg (w6.drewN n7) (w6.drewN n7).heap.size A5 ((LB : List Int).map (.int .i64))) := HR5_6.out
  generalize w6.drewN n7 = w7 at *
  go_wp2_with fail
  refine (H7.out _ HP7.out).mono ?_
  rintro e w' ⟨rfl, rfl⟩
  go_wp2_with fail
  go_loop [115] (fun s115 => ∃ k : Nat, k ≤ p.length ∧ s115 = .int .i64 k) (fun s115 => p.length - (intOf s115).toNat)
  case atStart => exact ⟨0, Nat.zero_le _, rfl⟩
  case round =>
    obtain ⟨k, hk, rfl⟩ := hrel
    by_cases hlt : k < p.length
    · have i2 : (k : Int) < (p.length : Int) := by omega
      have hfk := FK.out k hlt
      obtain ⟨A', hsl, hsg⟩ := slice_from HP7.out (l := k) (c := c2) (k : Int) rfl (by omega) hpc
      obtain ⟨ad, rfl, _, hcell⟩ := HP7.out.pat hlt
      obtain ⟨ac, rfl, _, hcc⟩ := HR3_7.out.pat (show k < LC.length by rw [FC.out]; exact hlt)
      obtain ⟨X, hX⟩ : ∃ X : Nat, pat p k = X := ⟨(pat p k).toNat, by omega⟩
      rw [hX] at hfk hcell
      rw [Int.toNat_natCast] at hfk
      obtain ⟨hf1, hf2, hf3, hf4⟩ := hfk
      have hXb : X < LB.length := by rw [FB.out]; omega
      obtain ⟨ab, rfl, _, hcb⟩ := HR5_7.out.pat hXb
      rw [hf3] at hcc
      rw [hf4] at hcb
      have HSG := Lib.hid hsg
      have hyl : (p.drop k).length ≤ 20 := by rw [List.length_drop]; omega
      have i4 : (X : Int) < (LB.length : Int) := by omega
      have i5 : (k : Int) < (LC.length : Int) := by rw [FC.out]; omega
      have b7 : ((k : Int) != (k : Int)) = false := by simp
      clear hsg hX hf1 hf2 hf3 hf4
      have hnb := lessn_le (p.drop k) X (p.drop k).length
      have b8 : (((lessn (p.drop k) X (p.drop k).length : Nat) : Int) != ((lessn (p.drop k) X (p.drop k).length : Nat) : Int)) = false := by simp
      have HM : Hid (∃ m, lessn (p.drop k) X (p.drop k).length = m) := ⟨_, rfl⟩
      generalize p.drop k = ys at *
      go_wp2_with fail
      clear hsl hcell
      go_loop [19, 124] (fun s19 s124 => ∃ i : Nat, i ≤ ys.length ∧ s124 = .int .i64 i ∧ s19 = .int .i64 (lessn ys X i : Nat)) (fun _ s124 => ys.length - (intOf s124).toNat)
      case atStart => exact ⟨0, Nat.zero_le _, rfl, rfl⟩
      case round =>
        obtain ⟨i, hi, rfl, rfl⟩ := hrel
        by_cases hlt2 : i < ys.length
        · have i3 : (i : Int) < (ys.length : Int) := by omega
          obtain ⟨ae, rfl, _, hcell⟩ := HSG.out.pat hlt2
          have HST : Hid (lessn ys X (i + 1) = lessn ys X i + if pat ys i < X then 1 else 0) := rfl
          have hln := lessn_le ys X i
          generalize pat ys i = y at *
          generalize lessn ys X i = n at *
          by_cases hxy : y < (X : Int)
          · have HX : Hid (lessn ys X (i + 1) = n + 1) := by unfold Hid; rw [HST.out, if_pos hxy]
            go_wp2_with fail
            go_round
            case rel => exact ⟨i + 1, by omega, by go_num, by rw [HX.out]; go_num⟩
            case measure => simp [intOf]; omega
          · have HX : Hid (lessn ys X (i + 1) = n) := by unfold Hid; rw [HST.out, if_neg hxy]; rfl
            go_wp2_with fail
            go_round
            case rel => exact ⟨i + 1, by omega, by go_num, by rw [HX.out]⟩
            case measure => simp [intOf]; omega
        · have i3 : ¬ (i : Int) < (ys.length : Int) := by omega
          have HI : Hid (i = ys.length) := by unfold Hid; omega
          obtain rfl : i = ys.length := HI.out
          generalize lessn ys X ys.length = m at *
          go_wp2_with fail
          go_round
          case rel => exact ⟨k + 1, by omega, by go_num⟩
          case measure => simp [intOf]; omega
    · have i2 : ¬ (k : Int) < (p.length : Int) := by omega
      have HK : Hid (k = p.length) := by unfold Hid; omega
      go_wp2_with fail
      refine (HQR.out _ HQ7.out).mono ?_
      rintro e w' ⟨rfl, rfl⟩
      go_wp2_with fail
      go_loopw [22, 168] (fun s22 s168 wr => ∃ j : Nat, j ≤ p.length ∧ s168 = .int .i64 j ∧ Own wr w7.heap.size 3 s22 ((tab (fun k => pat q (pat p k).toNat) j).map (.int .i64)) ∧ Below w7.heap.size w7 wr) (fun _ s168 _ => p.length - (intOf s168).toNat)
      case atStart => exact ⟨0, Nat.zero_le _, rfl, Own.none_, Below.refl _ _⟩
      case round =>
        obtain ⟨j, hj, rfl, hown, hbel⟩ := hrel
        have HOW := Lib.hid hown
        have HB := Lib.hid hbel
        have HSZ := Lib.hid hbel.size
        clear hown hbel
        by_cases hlt2 : j < p.length
        · have i3 : (j : Int) < (p.length : Int) := by omega
          obtain ⟨ad, rfl, _, hcell⟩ := (HP7.out.below HB.out).pat hlt2
          have hfk := FK.out j hlt2
          obtain ⟨X, hX⟩ : ∃ X : Nat, pat p j = X := ⟨(pat p j).toNat, by omega⟩
          have HTS : Hid (tab (fun k => pat q (pat p k).toNat) (j + 1) = tab (fun k => pat q (pat p k).toNat) j ++ [pat q X]) := by unfold Hid; rw [tab_succ]; simp only [hX, Int.toNat_natCast]
          rw [hX] at hcell hfk
          have hXq : X < q.length := by omega
          clear hfk hX
          obtain ⟨aq, rfl, _, hcq⟩ := (HQ7.out.below HB.out).pat hXq
          have i6 : (X : Int) < (q.length : Int) := by omega
          generalize pat q X = x at *
          go_wp2_with (first
            | (at_builtin; go_must (refine wpList_push _ rfl _ _ 22 3 8 elem_ints rfl w7.heap.size _ _ rfl (Own.alloc' HOW.out _) (.int .i64 x) ⟨wr.heap.size, 0, none⟩ 1 rfl (cell_new1 _ _ _) rfl (by rw [List.length_map, tab_len]; omega) (by rw [List.length_map, tab_len]; unfold maxLen; omega) (by simp; exact Nat.le_succ_of_le HSZ.out) ?_); intro v3 w3 hown3 hbel3; have HO3 := Lib.hid hown3; have HB3 := Lib.hid hbel3; clear hown3 hbel3)
            | fail)
          go_roundw
          case rel =>
            refine ⟨j + 1, by omega, by go_num, ?_, (HB.out.alloc HSZ.out _).trans HB3.out⟩
            have h := HO3.out
            rw [HTS.out, List.map_append]; exact h
          case measure => simp [intOf]; omega
        · have i3 : ¬ (j : Int) < (p.length : Int) := by omega
          have HJ : Hid (j = p.length) := by unfold Hid; omega
          obtain ⟨A9, c9, rfl, hc9, hsg⟩ := HOW.out.res
          rw [HJ.out, ← HLT.out] at hsg
          have HW9 := Lib.hid hsg
          have HT9 := Lib.hid (HR4_7.out.on HB.out)
          have HLEN : Hid ((List.map (Value.int .i64) (tab (fun k => pat q (pat p k).toNat) j)).length = LT.length) := by unfold Hid; rw [List.length_map, tab_len, HLT.out, tab_len, HJ.out]
          rw [HLEN.out]
          have hlt20 : LT.length ≤ 9223372036854775807 := by rw [HLT.out, tab_len]; omega
          clear hsg hc9
          go_wp2_with fail
          refine (eq_same LT A4 A9 k4 c9 _ HT9.out HW9.out hlt20).mono ?_
          rintro e w' ⟨rfl, n9, rfl⟩
          go_wp2_with fail
          go_ret
          exact ⟨rfl, below_drewN (HB7.out.trans (HB.out.mono HB7.out.size)) _⟩
end Go.Proofs.Ytmcbkjepjijfjaa
