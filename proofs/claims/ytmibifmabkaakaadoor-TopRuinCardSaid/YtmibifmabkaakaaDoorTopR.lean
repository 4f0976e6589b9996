/- The statement TopRuin, walked. No condition but the library's tables. -/
import Derived.Test.YtmibifmabkaakaaDoorBenD
import Derived.Test.YtmibifmabkaakaaDoorTopU
namespace Go.Proofs.YtmibifmabkaakaaDoor
open Go.ChangeShapes Go.WideShapes Go.ChangeAt Go.RowKit
set_option linter.unusedVariables false

theorem rw1 {T T1 : Nat} (h : (T1 : Int) = (T : Int) - 1) (h2 : T ≤ 8) : wrap64 ((T : Int) - 1) = (T1 : Int) := by rw [wr64 _ (by omega) (by omega)]; exact h.symm
theorem rw2 {M1 m : Nat} (h : M1 = m + 1) (hm : m ≤ 20) : wrap64 ((M1 : Int) - 1) = (m : Int) := by rw [wr64 _ (by omega) (by omega)]; omega
theorem rw2b {M1 m : Nat} (h : M1 = m + 1) (hm : m ≤ 20) : wrap64 ((M1 : Int) + 1) = ((M1 + 1 : Nat) : Int) := by rw [wr64 _ (by omega) (by omega)]; omega
theorem rw3 {S : Int} (h0 : 0 ≤ S) (h1 : S ≤ 1024) : wrap64 (2 * S) = 2 * S := wr64 _ (by omega) (by omega)
theorem rw4 {S S1 : Int} {W : Nat} (h : S1 = 2 * S + (W : Int)) (h0 : 0 ≤ S1) (h1 : S1 ≤ 1024) : wrap64 (2 * S + (W : Int)) = S1 := by rw [← h, wr64 _ (by omega) (by omega)]
theorem rw5 {Dn D1 : Nat} (h : D1 = Dn * 2) (hd : Dn ≤ 1024) : wrap64 ((Dn : Int) * 2) = (D1 : Int) := by rw [wr64 _ (by omega) (by omega)]; omega
theorem rw6 {S : Int} (h0 : 0 ≤ S) (h1 : S ≤ 2048) : wrap64 S = S := wr64 _ (by omega) (by omega)
theorem rw8 {M1 D1 : Nat} (h : D1 = 2 ^ M1) (hm : M1 ≤ 10) : wrap64 (2 ^ min M1 64) = (D1 : Int) := by
  have h2 := Nat.pow_le_pow_right (n := 2) (by decide) hm
  rw [show min M1 64 = M1 by omega, show ((2 : Int) ^ M1) = (D1 : Int) by rw [h]; simp]
  exact wr64 _ (by omega) (by have : (2 : Nat) ^ 10 = 1024 := rfl; omega)
theorem bit_all : ∀ y : Fin 1025, (bits BinOp.and IntKind.i64 (y.val : Int) 1 == 1) = (y.val % 2 == 1) := by decide +kernel
theorem bit_at {x k : Nat} (hx : x ≤ 1024) (hk : k ≤ 10) : (bits BinOp.and IntKind.i64 ((x : Int) / 2 ^ min k 64) 1 == 1) = (x / 2 ^ k % 2 == 1) := by
  have h := bit_all ⟨x / 2 ^ k, Nat.lt_succ_of_le (Nat.le_trans (Nat.div_le_self _ _) hx)⟩
  rw [show min k 64 = k by omega, show ((x : Int) / 2 ^ k) = ((x / 2 ^ k : Nat) : Int) by simp]
  exact h
theorem rwk {k M1 : Nat} (h : k < M1) (h2 : M1 ≤ 10) : wrap64 ((k : Int) + 1) = ((k + 1 : Nat) : Int) := by rw [wr64 _ (by omega) (by omega)]; omega
theorem rwx {k D : Nat} (h : k < D) (h2 : D ≤ 2048) : wrap64 ((k : Int) + 1) = ((k + 1 : Nat) : Int) := by rw [wr64 _ (by omega) (by omega)]; omega
theorem row_bits {w : World} {g m x : Nat} (h : w.rowIs g 4 m (fun c => .bool (if c < m then x / 2 ^ c % 2 == 1 else false))) : Seg w w.heap.size (some ⟨g, 0, none⟩) ((bitsN x m).map .bool) := by
  refine rowIs_seg h (fun i u hu => ?_) (by rw [List.length_map, bitsN_len]; exact Nat.le_refl _)
  have hi : i < m := by have := (List.getElem?_eq_some_iff.1 hu).1; simpa [bitsN_len] using this
  rw [List.getElem?_map, bitsN_at m x i hi] at hu
  rw [if_pos hi]
  simpa using hu
theorem rwm {a b : Int} (h0 : 0 ≤ a) (h1 : a ≤ 1024) (h2 : 0 ≤ b) (h3 : b ≤ 1024) : wrap64 (a * b) = a * b := by
  have g1 := Int.mul_nonneg h0 h2
  have g2 : a * b ≤ 1024 * 1024 := Int.mul_le_mul h1 h3 h2 (by decide)
  exact wr64 _ g1 (by omega)
theorem pow_ten {m : Nat} (h : m ≤ 10) : 2 ^ m ≤ 1024 := Nat.le_trans (Nat.pow_le_pow_right (by decide) h) (by decide)
set_option maxRecDepth 20000 in
set_option maxHeartbeats 4000000 in
theorem ruin_core (T H N : Nat) (w : World) (h1 : 2 ≤ T) (h2 : T ≤ 8) (h3 : 1 ≤ H) (h4 : H < T) (h5 : 1 ≤ N) (h6 : N ≤ 10)
    (hA : Calls Tryd.prog 11 #[] w fun e w' => e = .returned (.bool true) ∧ Below w.heap.size w w') :
    Calls Tryd.prog 5 #[.int .i64 T, .int .i64 H, .int .i64 N] w fun e w' => e = .returned (.bool true) ∧ Below w.heap.size w w' := by
  have HA := Lib.hid hA
  obtain ⟨f1, f2, f3, f4⟩ := ruin_facts h1 h2 h3 h4
  have HF1 := Lib.hid f1
  have HF2 := Lib.hid f2
  have HF3 := Lib.hid f3
  have HF4 := Lib.hid f4
  have HN := Lib.hid (And.intro h1 (And.intro h2 (And.intro h3 (And.intro h4 (And.intro h5 h6)))))
  obtain ⟨T1, hT1⟩ : ∃ T1 : Nat, (T1 : Int) = (T : Int) - 1 := ⟨T - 1, by omega⟩
  have HU1 := Lib.hid (rw1 hT1 h2)
  have HBW : Hid (∀ m : Nat, m < 10 → ∀ u, Calls Tryd.prog 19 #[.int .i64 m, .int .i64 H, .int .i64 T1, .int .i64 T] u fun e w' => e = .returned (.tuple #[.int .i64 (cntB (winG T H 0 (m + 1)) (2 ^ (m + 1)) : Nat), .int .i64 0]) ∧ Below u.heap.size u w') := fun (m : Nat) hm u => by
    have h := between_any (m : Int) (H : Int) (T1 : Int) (T : Int) u
    unfold WOut at h
    rw [hT1, (f1 m hm).2, if_neg (by simp), if_neg (by simp), Int.toNat_natCast, ← between_is (by omega), ← (f1 m hm).1] at h
    rw [hT1]
    exact h
  have i1 : ¬ (T : Int) < 2 := by omega
  have i2 : ¬ (8 : Int) < (T : Int) := by omega
  have i3 : ¬ (H : Int) < 1 := by omega
  have i4 : ¬ (T : Int) ≤ (H : Int) := by omega
  have i7 : decide (T ≤ H) = false := decide_eq_false (by omega)
  have i5 : ¬ (N : Int) < 1 := by omega
  have i6 : ¬ (10 : Int) < (N : Int) := by omega
  have HT1 := Lib.hid hT1
  clear f1 f2 f3 f4 h1 h2 h3 h4 h5 h6 hA hT1
  go_enter Tryd.func5, Tryd.ntmps5
  go_wp2_with fail
  refine HA.out.mono ?_
  rintro e w1 ⟨rfl, hb1⟩
  have HB1 := Lib.hid hb1
  clear hb1
  go_wp2_with fail
  (try rw [i7])
  clear i1 i2 i3 i4 i5 i6 i7
  go_loopw [7, 8, 9] (fun s7 s8 s9 wx => ∃ (m M1 Dn : Nat) (S : Int), m ≤ N ∧ Hid (M1 = m + 1) ∧ s9 = .int .i64 M1 ∧ Hid (S = sumR T H m) ∧ s7 = .int .i64 S ∧ Hid (Dn = 2 ^ m) ∧ s8 = .int .i64 Dn ∧ Hid (Below w.heap.size w wx)) (fun _ _ s9 _ => N + 1 - (intOf s9).toNat)
  case atStart => exact ⟨0, 1, 1, 0, Nat.zero_le _, rfl, rfl, rfl, rfl, rfl, rfl, HB1.out⟩
  case round =>
    obtain ⟨m, M1, Dn, S, hmN, HM1, rfl, HS, rfl, HDn, rfl, HBX⟩ := hrel
    by_cases hlt : m < N
    · have hn := HN.out
      have hm10 : m < 10 := by omega
      have hmle : m ≤ 10 := by omega
      have hM1 := HM1.out
      have hM10 : M1 ≤ 10 := by omega
      have hm20 : m ≤ 20 := by omega
      have J1 : Hid ((M1 : Int) ≤ (N : Int)) := by unfold Hid; omega
      have HLT := Lib.hid hlt
      have HU2 := Lib.hid (rw2 hM1 hm20)
      have HU2b := Lib.hid (rw2b hM1 hm20)
      have HM10 := Lib.hid hM10
      obtain ⟨D1, hD1⟩ : ∃ D1, D1 = Dn * 2 := ⟨_, rfl⟩
      have hdn : Dn ≤ 1024 := by rw [HDn.out]; exact pow_ten hmle
      have HU5 := Lib.hid (rw5 hD1 hdn)
      have HD1 : Hid (D1 = 2 ^ M1) := by unfold Hid; rw [hD1, HDn.out, hM1, Nat.pow_succ]
      have hS0 := HF2.out m hmle
      have hS1 := HF2.out M1 hM10
      obtain ⟨W, hW⟩ : ∃ W, W = cntB (winG T H 0 M1) (2 ^ M1) := ⟨_, rfl⟩
      have HBWm : Hid (∀ u, Calls Tryd.prog 19 #[.int .i64 m, .int .i64 H, .int .i64 T1, .int .i64 T] u fun e w' => e = .returned (.tuple #[.int .i64 W, .int .i64 0]) ∧ Below u.heap.size u w') := by rw [hW, hM1]; exact HBW.out m hm10
      obtain ⟨S1, hSS⟩ : ∃ S1, S1 = sumR T H M1 := ⟨_, rfl⟩
      have hse : S1 = 2 * S + (W : Int) := by
        rw [hSS, hW, hM1, HS.out, (HF1.out m hm10).1]
        rfl
      rw [← HS.out] at hS0
      rw [← hSS] at hS1
      have HV1 : Hid ((T : Int) - 1 = (T1 : Int)) := HT1.out.symm
      have HV2 : Hid ((M1 : Int) - 1 = (m : Int)) := by unfold Hid; rw [hM1]; simp
      have HV4 : Hid (2 * S + (W : Int) = S1) := hse.symm
      have HV5 : Hid ((Dn : Int) * 2 = (D1 : Int)) := by unfold Hid; rw [hD1]; simp
      have hd1 : D1 ≤ 2048 := by omega
      have HD1L := Lib.hid hd1
      have HV6 := Lib.hid (rw6 hS1.1 (Int.le_trans hS1.2.1 (by decide)))
      have HV7 := Lib.hid (rw6 (S := (D1 : Int)) (Int.natCast_nonneg _) (by omega))
      have HV8 := Lib.hid (rw8 HD1.out hM10)
      have HU3 := Lib.hid (rw3 hS0.1 hS0.2.1)
      have HU4 := Lib.hid (rw4 hse hS1.1 hS1.2.1)
      have HS1 := Lib.hid hSS
      have HW := Lib.hid hW
      clear hd1 hS0 hS1 hse hdn hD1 hSS hW hlt hmN hm10 hM1 hn hmle hM10 hm20
      have j1 := J1.out
      have v1 := HV1.out
      have v2 := HV2.out
      have v4 := HV4.out
      have v5 := HV5.out
      have v6 := HV6.out
      have v7 := HV7.out
      have v8 := HV8.out
      have u1 := HU1.out
      have u2 := HU2.out
      have u3 := HU3.out
      have u4 := HU4.out
      have u5 := HU5.out
      go_wp2_with fail
      refine (HBWm.out _).mono ?_
      rintro e w2 ⟨rfl, hb2⟩
      have HB2 : Hid (Below w.heap.size w w2) := HBX.out.trans (hb2.mono HBX.out.size)
      clear hb2 HBX j1
      go_wp2_with fail
      clear u1 u2 u3 u4 u5 v1 v2 v4 v5 v6 v7 v8
      (try rw [HV8.out])
      (try rw [HV7.out])
      (try rw [HV6.out])
      go_loopw [12, 71] (fun s12 s71 wx => ∃ x : Nat, x ≤ D1 ∧ s71 = .int .i64 x ∧ s12 = .int .i64 (cntB (winG T H 0 M1) x : Nat) ∧ Hid (Below w.heap.size w wx)) (fun _ s71 _ => D1 - (intOf s71).toNat)
      case atStart => exact ⟨0, Nat.zero_le _, rfl, rfl, HB2.out⟩
      case round =>
        obtain ⟨x, hxD, rfl, rfl, HBY⟩ := hrel
        obtain ⟨C, hC⟩ : ∃ C, C = cntB (winG T H 0 M1) x := ⟨_, rfl⟩
        rw [← hC]
        have HC := Lib.hid hC
        clear hC
        by_cases hxl : x < D1
        · have j1 : (x : Int) < (D1 : Int) := by omega
          have j2 : (0 : Int) ≤ (M1 : Int) := by omega
          have HXL := Lib.hid hxl
          have HX10 : Hid (x ≤ 1024) := Nat.le_trans (Nat.le_of_lt hxl) (by rw [HD1.out]; exact pow_ten HM10.out)
          have hM1x : M1 ≤ 10 := HM10.out
          have hmk := run_make_row' (P := Tryd.prog) 40 4 (.bool false) 1 Tryd.underlying40 (by kernel_rfl) rfl .i64 .i64 M1 (by omega) (by omega)
          clear hM1x
          clear hxl hxD
          obtain ⟨wo, rfl⟩ : ∃ wo : World, wo = wr := ⟨_, rfl⟩
          go_wp2_with fail
          clear j1 hmk
          go_loopw [78] (fun s78 wx => ∃ k : Nat, k ≤ M1 ∧ s78 = .int .i64 k ∧ wx.rowIs wo.heap.size 4 M1 (fun c => .bool (if c < k then x / 2 ^ c % 2 == 1 else false)) ∧ Below wo.heap.size wo wx) (fun s78 _ => M1 - (intOf s78).toNat)
          case atStart => exact ⟨0, Nat.zero_le _, rfl, (World.rowIs_made wo (.bool false) M1 4).congr (fun i hi => by rw [if_neg (by omega)]), (Below.refl _ _).alloc (Nat.le_refl _) _⟩
          case round =>
            obtain ⟨k, hkM, rfl, hrow, hbel⟩ := hrel
            have HR2 := Lib.hid hrow
            have HB3 := Lib.hid hbel
            clear hrow hbel
            by_cases hkl : k < M1
            · have i4 : (k : Int) < (M1 : Int) := by omega
              have hc := HR2.out.cell hkl
              have hf := HR2.out.frozen k
              rw [if_neg (Nat.lt_irrefl k)] at hc
              have HKL := Lib.hid hkl
              clear hkl hkM
              go_wp2_with fail
              have HBT := bit_at (x := x) (k := k) HX10.out (Nat.le_of_lt (Nat.lt_of_lt_of_le HKL.out HM10.out))
              have HUK := rwk HKL.out HM10.out
              rw [HBT, HUK]
              refine ⟨⟨k + 1, HKL.out, rfl, (HR2.out.set k _).congr (fun i hi => ?_), HB3.out.setCell (Nat.le_refl _) _⟩, ?_⟩
              · by_cases e : i = k
                · subst e; rw [if_pos rfl, if_pos (Nat.lt_succ_self _)]
                · rw [if_neg e]
                  by_cases e2 : i < k
                  · rw [if_pos e2, if_pos (Nat.lt_succ_of_lt e2)]
                  · rw [if_neg e2, if_neg (fun h => by omega)]
              · clear HBT HUK
                have := HKL.out
                simp [intOf]; omega
            · obtain rfl : k = M1 := by omega
              have HSG := Lib.hid (row_bits HR2.out)
              have i4 : ¬ (k : Int) < (k : Int) := Int.lt_irrefl _
              clear hkl hkM
              obtain ⟨⟨pa, pg, pf⟩, hpr⟩ : ∃ r : Int × Nat × Int, r = play T H 0 (bitsN x k) := ⟨_, rfl⟩
              have HPY : Hid (Calls Tryd.prog 20 #[.int .i64 T, .int .i64 H, .slice (some ⟨wo.heap.size, 0, none⟩) k k] wr fun e w' => e = .returned (.tuple #[.int .i64 pa, .int .i64 (pg : Nat), .int .i64 pf]) ∧ wr = w') := by
                have hn := HN.out
                have h := play_ok (T : Int) (H : Int) (some ⟨wo.heap.size, 0, none⟩) (bitsN x k) k wr.heap.size wr (by omega) (by omega) (by omega) (by omega) HSG.out (by rw [bitsN_len]; have := HM10.out; omega)
                rw [bitsN_len, ← hpr] at h
                exact h
              have HST : Hid (cntB (winG T H 0 k) (x + 1) = C + if decide ((pa, pg, pf) = ((T : Int), 0 + k, (0 : Int))) = true then 1 else 0) := by
                unfold Hid
                rw [cntB, ← HC.out]
                unfold winG
                rw [← hpr]
              have HB5 : Hid (Below w.heap.size w wr) := HBY.out.trans (HB3.out.mono HBY.out.size)
              have HUX := Lib.hid (rwx HXL.out HD1L.out)
              have HCX : Hid (C ≤ x) := by rw [HC.out]; exact cntB_le _ _
              have HUC := Lib.hid (rwx (k := C) (D := 1025) (Nat.lt_succ_of_le (Nat.le_trans HCX.out HX10.out)) (by decide))
              have HR2 := ()
              clear hpr HSG
              by_cases e1 : pf = 0
              · subst e1
                by_cases e2 : pa = (T : Int)
                · subst e2
                  by_cases e3 : pg = k
                  · subst e3
                    rw [Nat.zero_add, decide_eq_true rfl] at HST
                    have uc := HUC.out
                    have b1 : ((T : Int) == (T : Int)) = true := by simp
                    have b2 : ((pg : Int) == (pg : Int)) = true := by simp
                    go_wp2_with fail
                    refine (HPY.out).mono ?_
                    rintro e w5 ⟨rfl, rfl⟩
                    go_wp2_with fail
                    go_roundw
                    case rel => exact ⟨x + 1, HXL.out, by first | rfl | rw [HUX.out], by rw [HST.out]; first | rfl | exact congrArg (Value.int .i64) HUC.out, HB5.out⟩
                    case measure => clear uc; (try rw [HUX.out]); have := HXL.out; simp [intOf]; omega
                  · have b1 : ((T : Int) == (T : Int)) = true := by simp
                    have b2 : ((pg : Int) == (k : Int)) = false := by rw [beq_eq_false_iff_ne]; intro h; exact e3 (Int.ofNat.inj h)
                    rw [Nat.zero_add, decide_eq_false (fun h => e3 (by injection h with _ h; injection h))] at HST
                    clear e3
                    go_wp2_with fail
                    refine (HPY.out).mono ?_
                    rintro e w5 ⟨rfl, rfl⟩
                    go_wp2_with fail
                    go_roundw
                    case rel => exact ⟨x + 1, HXL.out, by first | rfl | rw [HUX.out], by rw [HST.out]; rfl, HB5.out⟩
                    case measure => (try rw [HUX.out]); have := HXL.out; simp [intOf]; omega
                · have b1 : (pa == (T : Int)) = false := by rw [beq_eq_false_iff_ne]; exact e2
                  rw [decide_eq_false (fun h => e2 (by injection h))] at HST
                  clear e2
                  go_wp2_with fail
                  refine (HPY.out).mono ?_
                  rintro e w5 ⟨rfl, rfl⟩
                  go_wp2_with fail
                  go_roundw
                  case rel => exact ⟨x + 1, HXL.out, by first | rfl | rw [HUX.out], by rw [HST.out]; rfl, HB5.out⟩
                  case measure => (try rw [HUX.out]); have := HXL.out; simp [intOf]; omega
              · have b0 : (pf == 0) = false := by rw [beq_eq_false_iff_ne]; exact e1
                rw [decide_eq_false (fun h => e1 (by injection h with _ h; injection h))] at HST
                clear e1
                go_wp2_with fail
                refine (HPY.out).mono ?_
                rintro e w5 ⟨rfl, rfl⟩
                go_wp2_with fail
                go_roundw
                case rel => exact ⟨x + 1, HXL.out, by first | rfl | rw [HUX.out], by rw [HST.out]; rfl, HB5.out⟩
                case measure => (try rw [HUX.out]); have := HXL.out; simp [intOf]; omega
        · obtain rfl : x = D1 := by omega
          have HCW : Hid (C = W) := by unfold Hid; rw [HC.out, HW.out, HD1.out]
          have b0 : ((W : Int) != (W : Int)) = false := by simp
          have j1 : ¬ (x : Int) < (x : Int) := Int.lt_irrefl _
          rw [HCW.out]
          clear hxl hxD
          go_wp2_with fail
          go_roundw
          case rel =>
            have g1 : Hid (M1 + 1 = m + 1 + 1) := by unfold Hid; rw [HM1.out]
            have g2 : Hid (S1 = sumR T H (m + 1)) := by rw [← HM1.out]; exact HS1.out
            have g3 : Hid (x = 2 ^ (m + 1)) := by rw [← HM1.out]; exact HD1.out
            exact ⟨m + 1, M1 + 1, x, S1, HLT.out, g1, by first | rfl | exact congrArg (Value.int .i64) HU2b.out, g2, rfl, g3, rfl, HBY.out⟩
          case measure => (try rw [HU2b.out]); have h1 := HLT.out; have h2 := HM1.out; simp [intOf]; omega
    · obtain rfl : m = N := by omega
      have j1 : ¬ (M1 : Int) ≤ (m : Int) := by have := HM1.out; omega
      have HNX := Lib.hid (HF2.out m (by have := HN.out; omega))
      obtain ⟨⟨⟨wn, wd'⟩, wc⟩, hwv⟩ : ∃ r : (Int × Int) × Int, r = wellV 1 1 T H := ⟨_, rfl⟩
      have hwc : wc = 0 := by have h := HF3.out; rw [← hwv] at h; exact h
      subst hwc
      have HWV : Hid (0 ≤ wn ∧ wn ≤ 100 ∧ 0 ≤ wd' ∧ wd' ≤ 100) := by have h := HF4.out; rw [← hwv] at h; exact h
      have HWL : Hid (Calls Tryd.prog 21 #[.int .i64 1, .int .i64 1, .int .i64 T, .int .i64 H] wr fun e w' => e = .returned (.tuple #[FracV wn wd', .int .i64 0]) ∧ Below wr.heap.size wr w') := by
        have h := well_any 1 1 (T : Int) (H : Int) wr
        rw [← hwv] at h
        exact h
      have HLE : Hid (S * wd' ≤ wn * (Dn : Int) ∧ 0 ≤ S ∧ S ≤ 1024) := by
        have h := HNX.out
        rw [← hwv, ← HS.out] at h
        refine ⟨?_, h.1, h.2.1⟩
        rw [HDn.out]
        simpa using h.2.2
      clear hwv hlt hmN HNX
      go_wp2_with fail
      refine (HWL.out).mono ?_
      rintro e w5 ⟨rfl, hb5⟩
      have HB5 : Hid (Below w.heap.size w w5) := HBX.out.trans (hb5.mono HBX.out.size)
      clear hb5
      go_wp2_with fail
      go_ret
      have k1 := rwm HLE.out.2.1 HLE.out.2.2 HWV.out.2.2.1 (Int.le_trans HWV.out.2.2.2 (by decide))
      have hd : Dn ≤ 1024 := by rw [HDn.out]; exact pow_ten HN.out.2.2.2.2.2
      have k2 := rwm HWV.out.1 (Int.le_trans HWV.out.2.1 (by decide)) (Int.natCast_nonneg Dn) (Int.ofNat_le.2 hd)
      refine ⟨?_, HB5.out.alloc HB5.out.size _⟩
      have e : Ending.returned (.bool (decide (wrap64 (S * wd') ≤ wrap64 (wn * (Dn : Int))))) = Ending.returned (.bool true) := by rw [k1, k2, decide_eq_true HLE.out.1]
      exact e
end Go.Proofs.YtmibifmabkaakaaDoor
