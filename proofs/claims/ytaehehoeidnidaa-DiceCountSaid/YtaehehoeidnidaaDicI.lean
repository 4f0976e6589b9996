/- The law DiceCount: a can be, b cannot. No condition. -/
import Derived.Test.YtaehehoeidnidaaDicH
namespace Go.Proofs.Ytaehehoeidnidaa
open Go.ChangeShapes Go.WideShapes Go.ChangeAt Go.RowKit Go.Maps
set_option linter.unusedVariables false

set_option maxRecDepth 100000 in
set_option maxHeartbeats 8000000 in
theorem law_nb (A B : Option Addr) (a b : List Int) (c d : Nat) (sides : Int) (w : World) (hs : Seg w w.heap.size A (a.map (.int .i64))) (hm : a.length ≤ 9223372036854775807) (ht : Seg w w.heap.size B (b.map (.int .i64))) (hn : b.length ≤ 9223372036854775807) (hq : DOk a) (hq2 : ¬ DOk b) :
    Calls Try.prog 9 #[.slice A a.length c, .slice B b.length d, .int .i64 sides] w fun e w' => e = .returned (.bool true) ∧ Below w.heap.size w w' := by
  have HS := Lib.hid hs
  have HM := Lib.hid hm
  have HT := Lib.hid ht
  have HN := Lib.hid hn
  have HOK := Lib.hid hq
  have HQ := Lib.hid (dokT hq)
  have HQ2 := Lib.hid (dokF hq2)
  have HR1 : Hid (sumR a b = ([], 1)) := by unfold Hid sumR; rw [if_pos (.inr (dokF hq2))]
  have HR2 : Hid (beatsR a b = (0, 0, 1)) := by unfold Hid beatsR; rw [if_pos (.inr (dokF hq2))]
  have HR3 : Hid (mostR a b = ([], 1)) := by unfold Hid mostR; rw [if_pos (.inr (dokF hq2))]
  have HR4 : Hid (meanR a = (dmean a a.length, dup a a.length, 0)) := by unfold Hid meanR; rw [if_neg (by rw [dokT hq]; simp)]
  clear hq hq2
  obtain ⟨⟨dl, de⟩, hd⟩ : ∃ r : List Int × Int, r = dieR sides := ⟨_, rfl⟩
  have HD := Lib.hid hd
  have K1 : ∀ w1 : World, Calls Try.prog 70 #[.int .i64 sides] w1 (DOut (dl, de) w1) := fun w1 => by rw [hd]; exact die_any sides w1
  have K2 : ∀ w1 : World, Below w.heap.size w w1 → Calls Try.prog 71 #[.slice A a.length c, .slice B b.length d] w1 (DOut (sumR a b) w1) := fun w1 hb => sum_any A B a b c d w1 ((hs.below hb).more hb.size) hm ((ht.below hb).more hb.size) hn
  have K3 : ∀ w1 : World, Below w.heap.size w w1 → Calls Try.prog 72 #[.slice A a.length c, .slice B b.length d] w1 (fun e w' => e = .returned (.tuple #[.int .i64 (beatsR a b).1, .int .i64 (beatsR a b).2.1, .int .i64 (beatsR a b).2.2]) ∧ w1 = w') := fun w1 hb => beats_any A B a b c d w1 ((hs.below hb).more hb.size) hm ((ht.below hb).more hb.size) hn
  have K4 : ∀ w1 : World, Below w.heap.size w w1 → Calls Try.prog 73 #[.slice A a.length c, .slice B b.length d] w1 (DOut (mostR a b) w1) := fun w1 hb => most_any A B a b c d w1 ((hs.below hb).more hb.size) hm ((ht.below hb).more hb.size) hn
  have K5 : ∀ w1 : World, Below w.heap.size w w1 → Calls Try.prog 74 #[.slice A a.length c] w1 (fun e w' => e = .returned (.tuple #[.int .i64 (meanR a).1, .int .i64 (meanR a).2.1, .int .i64 (meanR a).2.2]) ∧ w1 = w') := fun w1 hb => mean_any A a c w1 ((hs.below hb).more hb.size) hm
  have K6 : ∀ w1 : World, Below w.heap.size w w1 → Calls Try.prog 76 #[.slice A a.length c] w1 (fun e w' => e = .returned (.bool (dokB a)) ∧ w1 = w') := fun w1 hb => dright_any A a c w1 ((hs.below hb).more hb.size) hm
  have K7 : ∀ w1 : World, Below w.heap.size w w1 → Calls Try.prog 77 #[.slice A a.length c] w1 (fun e w' => e = .returned (.bool (dokB a)) ∧ w1 = w') := fun w1 hb => tright_any A a c w1 ((hs.below hb).more hb.size) hm
  have K8 : ∀ w1 : World, Below w.heap.size w w1 → Calls Try.prog 77 #[.slice B b.length d] w1 (fun e w' => e = .returned (.bool (dokB b)) ∧ w1 = w') := fun w1 hb => tright_any B b d w1 ((ht.below hb).more hb.size) hn
  rw [HR1.out] at K2
  rw [HR2.out] at K3
  rw [HR3.out] at K4
  rw [HR4.out] at K5
  rw [HQ.out] at K6 K7
  rw [HQ2.out] at K8
  have H1 := Lib.hid K1
  have H2 := Lib.hid K2
  have H3 := Lib.hid K3
  have H4 := Lib.hid K4
  have H5 := Lib.hid K5
  have H6 := Lib.hid K6
  have H7 := Lib.hid K7
  have H8 := Lib.hid K8
  clear K1 K2 K3 K4 K5 K6 K7 K8 hd hs hm ht hn
  go_enter Try.func9, Try.ntmps9
  go_wp2_with fail
  refine (H1.out w).mono ?_
  rintro e w1 ⟨vd, rfl, hvd, hb1⟩
  obtain ⟨Ad, kd, rfl, _, sd⟩ := hvd.form
  have B1 := Lib.hid hb1
  have SD := Lib.hid sd
  clear hvd hb1 sd
  go_wp2_with fail
  refine (H2.out _ B1.out).mono ?_
  rintro e w2 ⟨vs, rfl, hvs, hb2⟩
  obtain ⟨As, ks, rfl, _, ss⟩ := hvs.form
  have B2 := Lib.hid (B1.out.trans (hb2.mono B1.out.size))
  have SD2 := Lib.hid ((SD.out.below hb2).more hb2.size)
  have SS := Lib.hid ss
  clear hvs hb2 ss
  go_wp2_with fail
  refine (H3.out _ B2.out).mono ?_
  rintro e w3 ⟨rfl, rfl⟩
  go_wp2_with fail
  refine (H4.out _ B2.out).mono ?_
  rintro e w4 ⟨vm, rfl, hvm, hb4⟩
  obtain ⟨Am, km, rfl, _, sm⟩ := hvm.form
  have B4 := Lib.hid (B2.out.trans (hb4.mono B2.out.size))
  have SD4 := Lib.hid ((SD2.out.below hb4).more hb4.size)
  have SS4 := Lib.hid ((SS.out.below hb4).more hb4.size)
  have SM := Lib.hid sm
  clear hvm hb4 sm
  go_wp2_with fail
  refine (H5.out _ B4.out).mono ?_
  rintro e w5 ⟨rfl, rfl⟩
  obtain ⟨bb, hbb⟩ : ∃ bb, bb = decide (sides < 1 ∨ 100 < sides) := ⟨_, rfl⟩
  have HBB := Lib.hid hbb
  clear hbb
  go_upto_region 6 with (fail)
  go_cut [63] (fun s63 wx => s63 = .bool bb ∧ wx = w4)
  case first =>
    rcases (by omega : sides < 1 ∨ (¬ sides < 1 ∧ 100 < sides) ∨ (¬ sides < 1 ∧ ¬ 100 < sides)) with h | ⟨h, h'⟩ | ⟨h, h'⟩
    · have HE : Hid (bb = true) := HBB.out.trans (decide_eq_true (.inl h))
      have b1 : decide (sides < 1) = true := decide_eq_true h
      clear h
      go_wp2_with fail
      go_meet
      case rel => exact ⟨by rw [HE.out], rfl⟩
    · have HE : Hid (bb = true) := HBB.out.trans (decide_eq_true (.inr h'))
      have b1 : decide (sides < 1) = false := decide_eq_false h
      have b2 : decide (100 < sides) = true := decide_eq_true h'
      clear h h'
      go_wp2_with fail
      go_meet
      case rel => exact ⟨by rw [HE.out], rfl⟩
    · have HE : Hid (bb = false) := HBB.out.trans (decide_eq_false (by omega))
      have b1 : decide (sides < 1) = false := decide_eq_false h
      have b2 : decide (100 < sides) = false := decide_eq_false h'
      clear h h'
      go_wp2_with fail
      go_meet
      case rel => exact ⟨by rw [HE.out], rfl⟩
  case rest =>
    obtain ⟨rfl, rfl⟩ := hcut
    obtain ⟨w6, rfl⟩ : ∃ w6 : World, w6 = wc := ⟨_, rfl⟩
    go_upto_if 63 with (fail)
    go_cut [6] (fun s6 wx => s6 = .bool false ∧ Hid (Below w6.heap.size w6 wx))
    case first =>
      cases hb2 : bb with
      | true =>
        have hc : sides < 1 ∨ 100 < sides := of_decide_eq_true (HBB.out.symm.trans hb2)
        have hd : ((dl, de) : List Int × Int) = ([], 2) := HD.out.trans (if_pos hc)
        obtain ⟨rfl, rfl⟩ : dl = [] ∧ de = 2 := by injection hd with e1 e2; exact ⟨e1, e2⟩
        subst hb2
        clear hc hd
        go_wp2_with fail
        go_meet
        case rel => exact ⟨rfl, Below.refl _ _⟩
      | false =>
        have hc : ¬ (sides < 1 ∨ 100 < sides) := of_decide_eq_false (HBB.out.symm.trans hb2)
        obtain ⟨N, rfl⟩ : ∃ N : Nat, sides = N := ⟨sides.toNat, by omega⟩
        have hd : ((dl, de) : List Int × Int) = (dieL N, 0) := HD.out.trans (if_neg hc)
        obtain ⟨rfl, rfl⟩ : dl = dieL N ∧ de = 0 := by injection hd with e1 e2; exact ⟨e1, e2⟩
        have HNb : Hid (0 < N ∧ N ≤ 1000) := by unfold Hid; omega
        have HDL : Hid ((dieL N).length ≤ 1001) := by unfold Hid dieL; simp; omega
        have hrep := repeat_pos ⟨w6.heap.size + 1, 0, none⟩ 1 N 1 ((w6.alloc (.cells #[.int .i64 0] 3)).alloc (.cells #[.int .i64 1] 3)) (by
          have h := Blk.new (w6.alloc (.cells #[.int .i64 0] 3)) 3 #[.int .i64 1]
          rw [show (w6.alloc (.cells #[.int .i64 0] 3)).heap.size = w6.heap.size + 1 by simp] at h
          exact h.cell 0 rfl) HNb.out.1 HNb.out.2
        have HREP := Lib.hid hrep
        have HB7 : Hid (Blk ((w6.alloc (.cells #[.int .i64 0] 3)).alloc (.cells #[.int .i64 1] 3)) w6.heap.size 3 #[.int .i64 0]) := (Blk.new w6 3 #[.int .i64 0]).alloc _
        have HB8 : Hid (Below w6.heap.size w6 ((w6.alloc (.cells #[.int .i64 0] 3)).alloc (.cells #[.int .i64 1] 3))) := ((Below.refl _ _).alloc (Nat.le_refl _) _).alloc (by simp) _
        subst hb2
        clear hc hd hrep
        go_wp2_with fail
        refine HREP.out.mono ?_
        rintro e w7 ⟨g7, rfl, hg7, hh7, hb7⟩
        have hown : Own w7 w6.heap.size 3 (.slice (some ⟨w6.heap.size, 0, none⟩) 1 1) [.int .i64 0] :=
          ⟨rfl, .inr ⟨w6.heap.size, 1, #[.int .i64 0], rfl, Nat.le_refl _, HB7.out.below hb7 HB7.out.lt, Nat.le_refl _, by simp [maxLen], rfl, rfl⟩⟩
        have hsg7 : Seg w7 w7.heap.size (some ⟨g7, 0, none⟩) (List.replicate N (.int .i64 1)) := fun _ => ⟨_, rfl, Blk.lt (cs := (List.replicate N (Value.int .i64 1)).toArray) hh7, fun k u hu => by
          rw [Addr.add_lit, Nat.zero_add, cell_of_row w7 g7 k _ _ (0, 0) hh7]; rw [List.getElem?_toArray]; exact hu⟩
        have hown2 := Lib.hid hown
        have hsg72 := Lib.hid hsg7
        have HB72 := Lib.hid hb7
        have HL7 := Lib.hid (show w6.heap.size ≤ w7.heap.size from Nat.le_trans HB8.out.size hb7.size)
        clear hown hsg7 hb7 hh7 hg7
        go_wp2_with (at_builtin; refine wpList_append_segw w7 rfl _ _ elem_ints rfl w6.heap.size _ _ rfl hown2.out N rfl (by simp) hsg72.out (rep_one N 1) (by have := HNb.out; simp [maxLen]; omega) (by have := HNb.out; simp; omega) HL7.out ?_; intro v8 w8 ho8 hg8 hor8)
        have HB9 : Hid (Below w6.heap.size w6 w8) := (HB8.out.trans (HB72.out.mono HB8.out.size)).grown hg8 HL7.out hown2.out.block
        have hsl : IsSlice w8 v8 ((dieL N).map (.int .i64)) := by
          have h := ho8.res
          have e : [Value.int .i64 0] ++ List.replicate N (.int .i64 1) = (dieL N).map (.int .i64) := by simp [dieL]
          rw [e] at h
          exact h
        obtain ⟨A8, k8, rfl, _, sg8⟩ := hsl.form
        have heq := eq_ints (dieL N) (dieL N) Ad A8 kd k8 _ w8 ((SD4.out.below HB9.out).more HB9.out.size) sg8 (by have := HDL.out; omega)
        rw [decide_eq_true rfl] at heq
        have HEQ := Lib.hid heq
        clear ho8 hg8 hor8 hsl sg8 heq
        go_wp2_with fail
        refine HEQ.out.mono ?_
        rintro e w9 ⟨rfl, n, hw9⟩
        have HB10 : Hid (Below w6.heap.size w6 w9) := by unfold Hid; rw [hw9]; exact below_drewN HB9.out _
        clear hw9
        go_wp2_with fail
        go_meet
        case rel => exact ⟨rfl, HB10⟩
    case rest =>
      obtain ⟨rfl, hbc⟩ := hcut
      have BC := Lib.hid (B4.out.trans (hbc.out.mono B4.out.size))
      have HSC := Lib.hid ((HS.out.below BC.out).more BC.out.size)
      go_wp2_with fail
      refine (H6.out _ BC.out).mono ?_
      rintro e w1 ⟨rfl, rfl⟩
      go_wp2_with fail
      refine (H7.out _ BC.out).mono ?_
      rintro e w1 ⟨rfl, rfl⟩
      go_wp2_with fail
      refine (H7.out _ BC.out).mono ?_
      rintro e w1 ⟨rfl, rfl⟩
      go_wp2_with fail
      go_loop [19, 20, 134] (fun s19 s20 s134 => ∃ k : Nat, k ≤ a.length ∧ s19 = .int .i64 (dmean a k) ∧ s20 = .int .i64 (dup a k) ∧ s134 = .int .i64 k) (fun _ _ s134 => a.length - (intOf s134).toNat)
      case atStart => exact ⟨0, Nat.zero_le _, rfl, rfl, rfl⟩
      case round =>
        obtain ⟨k, hk, rfl, rfl, rfl⟩ := hrel
        by_cases hlt : k < a.length
        · have i1 : (k : Int) < (a.length : Int) := by omega
          obtain ⟨ad, rfl, _, c0⟩ := HSC.out.dk hlt
          have hl := HOK.out.len
          have h1 := dmean_b HOK.out k (by omega)
          have h2 := dmean_b HOK.out (k + 1) (by omega)
          have h3 := dup_b HOK.out k
          have h4 := dup_b HOK.out (k + 1)
          have e1 : dmean a k + (k : Int) * dk a k = dmean a (k + 1) := rfl
          have e2 : dup a k + dk a k = dup a (k + 1) := rfl
          have h5 := HOK.out.b k
          have h6 : 0 ≤ (k : Int) * dk a k ∧ (k : Int) * dk a k ≤ 200 * 1048576 := ⟨Int.mul_nonneg (by omega) h5.1, Int.mul_le_mul (by omega) h5.2 h5.1 (by omega)⟩
          have HK := Lib.hid (And.intro hk hlt)
          have uk : Hid (wrap64 ((k : Int) + 1) = ((k + 1 : Nat) : Int)) := dk64 (by omega)
          obtain ⟨M2, hM2⟩ : ∃ M2, M2 = dmean a (k + 1) := ⟨_, rfl⟩
          obtain ⟨U2, hU2⟩ : ∃ U2, U2 = dup a (k + 1) := ⟨_, rfl⟩
          rw [← hM2] at h2 e1
          rw [← hU2] at h4 e2
          have HM2 := Lib.hid hM2
          have HU2 := Lib.hid hU2
          clear hM2 hU2
          generalize dmean a k = M1 at *
          generalize dup a k = U1 at *
          generalize dk a k = n at *
          obtain ⟨q, hq⟩ : ∃ q, q = (k : Int) * n := ⟨_, rfl⟩
          rw [← hq] at e1 h6
          have f1 : (k : Int) * n = q := hq.symm
          have w1 : Hid (wrap64 q = q) := dw64 (by omega) (by omega)
          have w2 : Hid (wrap64 M2 = M2) := dw64 (by omega) (by omega)
          have w3 : Hid (wrap64 U2 = U2) := dw64 (by omega) (by omega)
          clear h1 h2 h3 h4 h5 h6 hq hl hk hlt
          have v1 := w1.out; have v2 := w2.out; have v3 := w3.out
          go_wp2_with fail
          clear v1 v2 v3
          go_round
          case rel => exact ⟨k + 1, HK.out.2, (by rw [← HM2.out]; first | rfl | rw [w2.out]), (by rw [← HU2.out]; first | rfl | rw [w3.out]), by first | rfl | rw [uk.out]⟩
          case measure => (try rw [uk.out]); have := HK.out; clear e1 e2 f1; simp [intOf]; omega
        · obtain rfl : k = a.length := by omega
          generalize dmean a a.length = M1 at *
          generalize dup a a.length = U1 at *
          go_wp2_with fail
          refine (H8.out _ BC.out).mono ?_
          rintro e w1 ⟨rfl, rfl⟩
          go_wp2_with fail
          go_ret
          exact ⟨rfl, BC.out⟩
end Go.Proofs.Ytaehehoeidnidaa
