/- Whole numbers in memory: digits divided by two or more digits. No condition. -/
import Derived.Test.YtkffakekakhgdaaBigP
import Derived.Deep.CutBlock
import Derived.Deep.DeepCutAuto
namespace Go.Proofs.Ytkffakekakhgdaa
open Go.ChangeShapes Go.WideShapes Go.ChangeAt Go.RowKit
set_option linter.unusedVariables false

theorem rowIs_set {w : World} {g n : Nat} {t : TypeId} {f : Nat → Value} (h : w.rowIs g t n f) {g' : Nat} (hg : g ≠ g') (i : Nat) (u : Value) : (w.setCell ⟨g', i, none⟩ u).rowIs g t n f := by
  obtain ⟨c, h1, h2, h3⟩ := h
  exact ⟨c, (Below.heap_setCell w _ _ _ hg).trans h1, h2, h3⟩
theorem less_words2 {a b c : Nat} (ha : a < 4294967296) (hb : b < 4294967296) (hc : c ≤ 1) : ∃ v1 v2 : Nat, IntKind.u64.wrap ((a : Int) - (b : Int)) = (v1 : Int) ∧ IntKind.u64.wrap ((v1 : Int) - (c : Int)) = (v2 : Int) ∧ (v1 : Int) < 18446744073709551616 ∧ (v2 : Int) < 18446744073709551616 ∧
    v2 % 4294967296 = a + (if a < b + c then 4294967296 else 0) - b - c ∧ v2 / 9223372036854775808 = if a < b + c then 1 else 0 := by
  refine ⟨(a + 18446744073709551616 - b) % 18446744073709551616, (a + 18446744073709551616 - b - c) % 18446744073709551616, ?_, ?_, ?_, ?_, ?_, ?_⟩
  · simp [IntKind.wrap, IntKind.bits, IntKind.signed]; omega
  · simp [IntKind.wrap, IntKind.bits, IntKind.signed]; omega
  · omega
  · omega
  · split <;> omega
  · split <;> omega
theorem spl_spl (h d e : Nat → Nat) (k L j : Nat) : spl (spl h d k L) e k L j = spl h e k L j := by
  unfold spl
  split
  · rfl
  · split <;> rfl
theorem digs_of_rowk {w : World} {g n k : Nat} {f : Nat → Value} {h : Nat → Nat} (hr : w.rowIs g tU n f) (hk : k ≤ n) (hf : ∀ i, i < n → f i = dgt (h i)) : Digs w (some ⟨g, 0, none⟩) (fl h k) := by
  have h1 := TSeg.pre (digs_of_row hr hf) k
  have e : (u32s (fl h n)).take k = u32s (fl h k) := by
    rw [u32s_fl, u32s_fl, ← List.map_take, List.take_range, Nat.min_eq_left hk]
  rw [e] at h1
  exact h1

set_option maxRecDepth 20000 in
set_option maxHeartbeats 4000000 in
theorem parts_many (Ax : Option Addr) (ay : Addr) (xs ys : List Nat) (cx cy m : Nat) (w : World) (hx : Digs w Ax xs) (hy : Digs w (some ay) ys) (kx : dok xs) (ky : dok ys) (hl : ys.length = m + 2) (h0 : gd ys (m + 1) ≠ 0) (lx : xs.length < 8796093022207) (hle : m + 2 ≤ xs.length) :
    Calls Try.prog 131 #[.slice Ax xs.length cx, .slice (some ay) ys.length cy] w fun e w' => TwoDigs w e w' fun ds es => ds.length = xs.length + 1 ∧ es.length = m + 2 ∧ dv ds = dv xs / dv ys ∧ dv es = dv xs % dv ys := by
  have HX := Lib.hid hx
  have HY := Lib.hid hy
  have KX := Lib.hid kx
  have KY := Lib.hid ky
  have HL := Lib.hid hl
  have HLE := Lib.hid hle
  have hyt := Digs.at_ hy (show m + 1 < ys.length by omega)
  have lm : m < 8796093022207 := by omega
  rw [Addr.add_succ'] at hyt
  have ht := ky (m + 1) (by omega)
  have HTop : Hid (∀ b : Nat, gd ys (m + 1) * 2 ^ b = gd ys (m + 1) * 2 ^ b) := fun _ => rfl
  have LM : Hid (ys.length < 8796093022208) := by unfold Hid; omega
  have n4 : (m : Int) + 2 ≤ (m : Int) + 2 + 1 := by omega
  have n5 : ((m : Int) + 2).toNat = m + 2 := by omega
  have n6 : (0 : Int) ≤ (m : Int) + 2 := by omega
  rw [hl]
  have n1 : (m : Int) + 2 - 1 = (m : Int) + 1 := by omega
  have n2 : ((m : Int) + 2 == 1) = false := by rw [beq_eq_false_iff_ne]; omega
  have n3 : ((m : Int) + 1).toNat = m + 1 := by omega
  clear hx hy kx ky hl hle
  generalize hgt : gd ys (m + 1) = t at *
  have HGT := Lib.hid hgt
  clear hgt HTop
  go_enter Try.func131, Try.ntmps131
  go_wp2_with fail
  go_loop [9] (fun s9 => ∃ b : Nat, s9 = .int .i64 b ∧ b < 32 ∧ Hid (t * 2 ^ b < 4294967296)) (fun s9 => 32 - (intOf s9).toNat)
  case atStart => exact ⟨0, rfl, by decide, by unfold Hid; omega⟩
  case round =>
    obtain ⟨b, rfl, hb, htb⟩ := hrel
    have HC : Hid ((t : Int) * 2 ^ b = ((t * 2 ^ b : Nat) : Int)) := by
      unfold Hid; rw [Int.natCast_mul, Int.natCast_pow]; rfl
    by_cases hs : t * 2 ^ b < 2147483648
    · have hc : ((t : Int) * 2 ^ b % 4294967296 / 2147483648 == 0) = true := by rw [HC.out, beq_iff_eq]; omega
      have HS := Lib.hid hs
      clear hs
      go_wp2_with fail
      go_roundw
      case rel =>
        have h3 := HS.out
        refine ⟨b + 1, by go_num, ?_, ?_⟩
        · rcases Nat.lt_or_ge (b + 1) 32 with a | a
          · exact a
          · exfalso
            obtain rfl : b = 31 := by omega
            omega
        · unfold Hid; rw [Nat.pow_succ, ← Nat.mul_assoc]; omega
      case measure => simp [intOf]; omega
    · have hc : ((t : Int) * 2 ^ b % 4294967296 / 2147483648 == 0) = false := by
        have := htb.out
        rw [HC.out, beq_eq_false_iff_ne]; omega
      have HS := Lib.hid (Nat.le_of_not_lt hs)
      clear hs
      go_wp2_with fail
      clear hc
      have hb0 : b / 32 = 0 := by omega
      have hsv := shl_row (some ay) ys cy b w.drew HY.out.drew KY.out LM.out (by omega)
      rw [hb0, HL.out, Nat.add_zero] at hsv
      refine wp_region_plan [(0, 0), (1, 0), (3, 0), (5, 0), (6, 0), (2, 2), (4, 0), (7, 2), (8, 0), (9, 0)] (fun _ => True) (by kernel_rfl) (by kernel_rfl) (fun _ d _ _ _ h => by cases d <;> exact h) trivial ?_
      iterate 5 (refine plan0 (v := ?_) rfl rfl (by rfl) ?_ ?_; rotate_left; (intro w'; go_simp; with_reducible rfl); simp only [List.setIfInBounds_toArray, List.set_cons_zero, List.set_cons_succ])
      refine plan2 rfl rfl fun K' hK' => ?_
      go_simp
      refine hsv.mono ?_
      rintro e w1 ⟨g, rfl, hgr, hgk, hgv, hb1⟩
      refine hK' _ _ trivial ?_
      clear hK' K' hsv
      iterate 1 (refine plan0 (v := ?_) rfl rfl (by rfl) ?_ ?_; rotate_left; (intro w'; go_simp; with_reducible rfl); simp only [List.setIfInBounds_toArray, List.set_cons_zero, List.set_cons_succ])
      refine plan2 rfl rfl fun K' hK' => ?_
      go_simp
      have HB1 : Hid (Below w.heap.size w w1) := (Below.drew (Below.refl _ _)).trans hb1
      have hsu := shl_row Ax xs cx b w1 (HX.out.below HB1.out) KX.out (by omega) (by omega)
      rw [hb0, Nat.add_zero] at hsu
      refine hsu.mono ?_
      rintro e w2 ⟨hu, rfl, hur, huk, huv, hb2⟩
      refine hK' _ _ trivial ?_
      clear hK' K' hsu
      iterate 2 (refine plan0 (v := ?_) rfl rfl (by rfl) ?_ ?_; rotate_left; (intro w'; go_simp; with_reducible rfl); simp only [List.setIfInBounds_toArray, List.set_cons_zero, List.set_cons_succ])
      refine planEnd ?_
      obtain ⟨nv1, nv2, nv3⟩ := norm_div (n := m + 1) KY.out HL.out hb (by rw [HGT.out]; exact htb.out) (by rw [HGT.out]; exact HS.out) hgk hgv
      have DI := Lib.hid (DInv.first (n := m + 1) KX.out HLE.out hb (hgk.mono (by omega)) nv3 huk huv)
      have HG1 := Lib.hid nv1
      have HG2 := Lib.hid nv2
      have HG3 := Lib.hid nv3
      have HGK := Lib.hid hgk
      have HU := Lib.hid hur
      have HV : Hid (w2.rowIs w.heap.size tU (m + 2 + 1) fun i => dgt (g i)) := rowIs_below hgr hb2 (by have := hgr.lt; exact this)
      have HB2 : Hid (Below w.heap.size w w2) := HB1.out.trans (hb2.mono HB1.out.size)
      have HS1 : Hid (w.heap.size < w1.heap.size) := hgr.lt
      have HS2 : Hid (w1.heap.size < w2.heap.size) := hur.lt
      have hmk := run_make_row' (P := Try.prog) 71 tU (.int .u32 0) 4 Try.underlying71 (by kernel_rfl) rfl .i64 .i64 (xs.length + 1) (by omega) (by omega)
      rw [Int.natCast_add, show ((1 : Nat) : Int) = 1 from rfl] at hmk
      clear hgr hgk hgv hur huk huv hb1 hb2 nv1 nv2 nv3 hb0 htb HC
      go_wp2_with fail
      clear hmk
      go_loopw [14] (fun s14 wr => ∃ (K : Nat) (hu ho : Nat → Nat), K + (m + 2) ≤ xs.length + 1 ∧ s14 = .int .i64 ((K : Int) - 1) ∧ Hid (DInv g hu ho (m + 2) (xs.length + 1) K (dv xs * 2 ^ b)) ∧ wr.rowIs w1.heap.size tU (xs.length + 1) (fun i => dgt (hu i)) ∧ wr.rowIs w2.heap.size tU (xs.length + 1) (fun i => dgt (ho i)) ∧ wr.rowIs w.heap.size tU (m + 2 + 1) (fun i => dgt (g i)) ∧ Below w.heap.size w wr) (fun s14 _ => (intOf s14 + 1).toNat)
      case atStart =>
        have hle := HLE.out
        exact ⟨xs.length - (m + 1), hu, fun _ => 0, by omega, congrArg (Value.int .i64) (by omega), DI.out, HU.out.alloc _, (World.rowIs_made w2 (.int .u32 0) (xs.length + 1) tU).congr (fun i _ => rfl), HV.out.alloc _, HB2.out.alloc HB2.out.size _⟩
      case round =>
        obtain ⟨K, hu, ho, hK, rfl, hd, hru, hro, hrv, hbel⟩ := hrel
        have RU := Lib.hid hru
        have RO := Lib.hid hro
        have RV := Lib.hid hrv
        have HB := Lib.hid hbel
        by_cases hz : K = 0
        · subst hz
          obtain ⟨dl1, dl2⟩ := hd.out.last (by omega) HG2.out
          have hsh := shr_any (some ⟨w1.heap.size, 0, none⟩) (fl hu (m + 2)) (xs.length + 1) b wr (digs_of_rowk hru (by omega) (fun _ _ => rfl)) (dok_fl (hd.out.1.mono (by omega))) (by rw [fl_len]; omega) (by rw [fl_len]; show _ ≤ 17592186044416; omega) (by omega)
          rw [fl_len] at hsh
          have HO : Hid (Digs wr (some ⟨w2.heap.size, 0, none⟩) (fl ho (xs.length + 1))) := digs_of_row hro (fun _ _ => rfl)
          have HOK := Lib.hid (dok_fl hd.out.2.1)
          have D1 : Hid (dv (fl ho (xs.length + 1)) = dv xs / dv ys) := by unfold Hid; rw [dv_fl]; exact dl1
          have D2 : Hid (dv (fl hu (m + 2)) / 2 ^ b = dv xs % dv ys) := by unfold Hid; rw [dv_fl]; exact dl2
          clear hru hro hrv hbel hd dl1 dl2
          go_wp2_with fail
          refine hsh.mono ?_
          rintro e w3 ⟨A, c, es, rfl, hc, hd3, hok3, ⟨hlen3, hval3⟩, hb3⟩
          have H1 := Lib.hid hc
          have H2 := Lib.hid hd3
          have H3 := Lib.hid hok3
          have H4 := Lib.hid hlen3
          have H5 := Lib.hid hval3
          have H6 := Lib.hid hb3
          clear hc hd3 hok3 hlen3 hval3 hb3 hsh
          go_wp2_with fail
          go_ret2
          exact ⟨some ⟨w2.heap.size, 0, none⟩, xs.length + 1, fl ho (xs.length + 1), A, c, es, by rw [fl_len]; rfl, by rw [fl_len]; exact Nat.le_refl _, H1.out, HO.out.below H6.out, H2.out, HOK.out, H3.out, ⟨fl_len _ _, by rw [H4.out]; omega, D1.out, by rw [H5.out, D2.out]⟩, HB.out.trans (H6.out.mono HB.out.size)⟩
        · obtain ⟨k, rfl⟩ : ∃ k, K = k + 1 := ⟨K - 1, by omega⟩
          have i0 : ((k + 1 : Nat) : Int) - 1 = (k : Int) := by omega
          rw [i0]
          obtain ⟨f, hf⟩ : ∃ f : Nat → Nat, f = fun i => hu (k + i) := ⟨_, rfl⟩
          have HF : Hid (∀ i, hu (k + i) = f i) := fun i => by rw [hf]
          have FOK : Hid (fok f (m + 3)) := fun i hi => by rw [hf]; exact hd.out.1 _ (by omega)
          have HWD : Hid (fv f (m + 3) < fv g (m + 2) * 4294967296) := by rw [hf]; exact hd.out.window (by omega)
          have HTL : Hid (f (m + 2) ≤ g (m + 1)) := top_le FOK.out (HGK.out.mono (by omega)) HWD.out
          have hcu0 := hru.cell (show k + (m + 2) < xs.length + 1 by omega)
          have hcu1 := hru.cell (show k + (m + 1) < xs.length + 1 by omega)
          have hcu2 := hru.cell (show k + m < xs.length + 1 by omega)
          have hcv1 := hrv.cell (show m + 1 < m + 2 + 1 by omega)
          have hcv2 := hrv.cell (show m < m + 2 + 1 by omega)
          rw [HF.out] at hcu0 hcu1 hcu2
          have j1 : (k : Int) + ((m : Int) + 2) < (xs.length : Int) + 1 := by omega
          have j2 : ((k : Int) + ((m : Int) + 2)).toNat = k + (m + 2) := by omega
          have j3 : (k : Int) + ((m : Int) + 2) - 1 < (xs.length : Int) + 1 := by omega
          have j4 : ((k : Int) + ((m : Int) + 2) - 1).toNat = k + (m + 1) := by omega
          have j5 : (m : Int) + 1 < (m : Int) + 2 := by omega
          have j6 : (0 : Int) ≤ (m : Int) + 1 := by omega
          have b0 := FOK.out (m + 2) (by omega)
          have b1 := FOK.out (m + 1) (by omega)
          have hor := or32' (f (m + 2)) (f (m + 1)) b0 b1
          have hv0 : ¬ (g (m + 1) : Int) = 0 := by have := HG3.out; omega
          have hvt : (g (m + 1) : Int) < 4294967296 := by have := HGK.out (m + 1) (by omega); omega
          have GI := Lib.hid (GInv.first (g := g) FOK.out (by have := HG3.out; omega))
          clear hru hro hrv hbel hf
          obtain ⟨wo, rfl⟩ : ∃ wo : World, wo = wr := ⟨_, rfl⟩
          generalize hT : f (m + 2) * 4294967296 + f (m + 1) = T at *
          go_wp2_with fail
          go_quiet (fail)
          go_wp2_with fail
          have hqt : IntKind.u64.wrap ((T : Int) / (g (m + 1) : Int)) = ((T / g (m + 1) : Nat) : Int) := by
            have h1 := GI.out.q_lt FOK.out HG3.out HTL.out
            rw [quo_nat]
            generalize T / g (m + 1) = z at *
            simp [IntKind.wrap, IntKind.bits, IntKind.signed]; omega
          go_quiet (fail)
          clear hqt hor hcu0 hcu1 b0 b1 j1 j2 j3 j4
          have hcu2 := hcu2
          go_upto_block 6 with fail
          go_cut [16, 17] from 134 to 171 (fun s16 s17 wx => ∃ q : Nat, s16 = .int .u64 q ∧ (∃ n, wx = wo.drewN n) ∧ Hid (q < 4294967296 ∧ q * fv g (m + 2) < fv f (m + 3) + fv g (m + 2) ∧ fv f (m + 3) / fv g (m + 2) ≤ q))
          case first =>
            go_wp2_with fail
            go_loopw [16, 17] (fun s16 s17 wr => ∃ q r : Nat, s16 = .int .u64 q ∧ s17 = .int .u64 r ∧ (∃ n, wr = wo.drewN n) ∧ Hid (GInv f g m q r) ∧ r < 4294967296) (fun _ s17 _ => 8589934592 - (intOf s17).toNat)
            case atStart =>
              have h1 := Nat.mod_lt T (show 0 < g (m + 1) by have := HG3.out; omega)
              have h2 := HGK.out (m + 1) (by omega)
              exact ⟨T / g (m + 1), T % g (m + 1), rfl, rfl, dr2 wo _ _, GI, by omega⟩
            case round =>
              obtain ⟨q, r, rfl, rfl, ⟨n, rfl⟩, hg, hr⟩ := hrel
              have hqs := hg.out.q_lt FOK.out HG3.out HTL.out
              have b2 := FOK.out m (by omega)
              have bv := HGK.out m (by omega)
              have hor := or32' r (f m) hr b2
              by_cases ha : 4294967296 ≤ q
              · have hqb : ((q : Int) / 4294967296 != 0) = true := by rw [bne_iff_ne]; omega
                obtain ⟨hq0, hgi⟩ := hg.out.step FOK.out HWD.out hr (.inl ha)
                have HGI := Lib.hid hgi
                have hq1 : (1 : Int) ≤ (q : Int) := by omega
                clear hgi
                by_cases hbr : 4294967296 ≤ r + g (m + 1)
                · have hbb : (((r : Int) + (g (m + 1) : Int)) / 4294967296 == 0) = false := by rw [beq_eq_false_iff_ne]; omega
                  have hbc : (((r : Int) + (g (m + 1) : Int)) / 4294967296 != 0) = true := by rw [bne_iff_ne]; omega
                  obtain ⟨br1, br2⟩ := HGI.out.broke FOK.out (HGK.out.mono (by omega)) (by have := HG3.out; omega) HTL.out hbr
                  have BR1 := Lib.hid br1
                  have BR2 := Lib.hid br2
                  clear br1 br2 hbr
                  go_wp2_with fail
                  go_quiet (fail)
                  go_wp2_with fail
                  go_meet
                  case rel => exact ⟨q - 1, congrArg (Value.int .u64) (by omega), ⟨_, rfl⟩, BR1.out, BR2.out, HGI.out.2⟩
                · have hbb : (((r : Int) + (g (m + 1) : Int)) / 4294967296 == 0) = true := by rw [beq_iff_eq]; omega
                  have hbc : (((r : Int) + (g (m + 1) : Int)) / 4294967296 != 0) = false := by rw [bne_eq_false_iff_eq]; omega
                  have HBR := Lib.hid (Nat.lt_of_not_le hbr)
                  clear hbr
                  go_wp2_with fail
                  go_quiet (fail)
                  go_wp2_with fail
                  go_roundw
                  case rel => exact ⟨q - 1, r + g (m + 1), congrArg (Value.int .u64) (by omega), congrArg (Value.int .u64) (by omega), ⟨_, rfl⟩, HGI.out, HBR.out⟩
                  case measure =>
                    have := HG3.out
                    simp [intOf]; omega
              · have hqb : ((q : Int) / 4294967296 != 0) = false := by rw [bne_eq_false_iff_eq]; omega
                have hm1 : (q : Int) * (g m : Int) < 18446744073709551616 := by
                  have := (pmul_lt (show 0 < 4294967296 by decide) (show q < 4294967296 by omega) bv).2
                  rw [← Int.natCast_mul]; omega
                have hm0 : (0 : Int) ≤ (q : Int) * (g m : Int) := Int.mul_nonneg (by omega) (by omega)
                have jj1 : (m : Int) < (m : Int) + 2 := by omega
                have jj3 : (m : Int) + 2 - 2 = (m : Int) := by omega
                have jj4 : (k : Int) + ((m : Int) + 2) - 2 < (xs.length : Int) + 1 := by omega
                have jj5 : ((k : Int) + ((m : Int) + 2) - 2).toNat = k + m := by omega
                generalize hR : r * 4294967296 + f m = R at hor
                have hqn : (q : Int) * (g m : Int) = ((q * g m : Nat) : Int) := by rw [Int.natCast_mul]
                have HQN := Lib.hid hqn
                clear hqn
                by_cases hc : R < q * g m
                · have hcb : decide ((R : Int) < (q : Int) * (g m : Int)) = true := by rw [HQN.out]; exact decide_eq_true (by omega)
                  obtain ⟨hq0, hgi⟩ := hg.out.step FOK.out HWD.out hr (.inr (by rw [hR]; exact hc))
                  have HGI := Lib.hid hgi
                  have hq1 : (1 : Int) ≤ (q : Int) := by omega
                  clear hgi
                  by_cases hbr : 4294967296 ≤ r + g (m + 1)
                  · have hbb : (((r : Int) + (g (m + 1) : Int)) / 4294967296 == 0) = false := by rw [beq_eq_false_iff_ne]; omega
                    have hbc : (((r : Int) + (g (m + 1) : Int)) / 4294967296 != 0) = true := by rw [bne_iff_ne]; omega
                    obtain ⟨br1, br2⟩ := HGI.out.broke FOK.out (HGK.out.mono (by omega)) (by have := HG3.out; omega) HTL.out hbr
                    have BR1 := Lib.hid br1
                    have BR2 := Lib.hid br2
                    clear br1 br2 hbr
                    go_wp2_with fail
                    go_quiet (fail)
                    go_wp2_with fail
                    go_meet
                    case rel => exact ⟨q - 1, congrArg (Value.int .u64) (by omega), ⟨_, rfl⟩, BR1.out, BR2.out, HGI.out.2⟩
                  · have hbb : (((r : Int) + (g (m + 1) : Int)) / 4294967296 == 0) = true := by rw [beq_iff_eq]; omega
                    have hbc : (((r : Int) + (g (m + 1) : Int)) / 4294967296 != 0) = false := by rw [bne_eq_false_iff_eq]; omega
                    have HBR := Lib.hid (Nat.lt_of_not_le hbr)
                    clear hbr
                    go_wp2_with fail
                    go_quiet (fail)
                    go_wp2_with fail
                    go_roundw
                    case rel => exact ⟨q - 1, r + g (m + 1), congrArg (Value.int .u64) (by omega), congrArg (Value.int .u64) (by omega), ⟨_, rfl⟩, HGI.out, HBR.out⟩
                    case measure =>
                      have := HG3.out
                      simp [intOf]; omega
                · have hcb : decide ((R : Int) < (q : Int) * (g m : Int)) = false := by rw [HQN.out]; exact decide_eq_false (by omega)
                  have LS := Lib.hid (hg.out.last FOK.out (HGK.out.mono (by omega)) (by have := HG3.out; omega) (by omega) (by rw [hR]; omega))
                  have LQ : Hid (q < 4294967296) := by unfold Hid; omega
                  go_wp2_with fail
                  go_quiet (fail)
                  go_wp2_with fail
                  go_meet
                  case rel => exact ⟨q, rfl, dr2 wo _ _, LQ.out, LS.out, hg.out.2⟩
          case rest =>
            obtain ⟨q, rfl, ⟨n, rfl⟩, hq⟩ := hcut
            have HQ := Lib.hid hq.out
            have hqi : (q : Int) < 4294967296 := by have := hq.out.1; omega
            obtain ⟨wz, hwz⟩ : ∃ wz, wz = wo.drewN n := ⟨_, rfl⟩
            rw [← hwz]
            have RU2 : Hid (wz.rowIs w1.heap.size tU (xs.length + 1) fun i => dgt (hu i)) := hwz ▸ RU.out
            have RO2 : Hid (wz.rowIs w2.heap.size tU (xs.length + 1) fun i => dgt (ho i)) := hwz ▸ RO.out
            have RV2 : Hid (wz.rowIs w.heap.size tU (m + 2 + 1) fun i => dgt (g i)) := hwz ▸ RV.out
            have HBz : Hid (Below w.heap.size w wz) := hwz ▸ below_drewN HB.out n
            clear hwz hq hcu2 hcv1 hcv2 RU RO RV HB GI
            have gf : fok g (m + 2) := HGK.out.mono (by omega)
            have GF := Lib.hid gf
            clear gf
            go_wp2_with fail
            go_loopw [18, 19, 174] (fun s18 s19 s174 wr => ∃ i : Nat, i ≤ m + 2 ∧ s174 = .int .i64 i ∧ s18 = .int .u64 (pc q g i : Nat) ∧ s19 = .int .u64 (bor f (pd q g) i : Nat) ∧ wr.rowIs w1.heap.size tU (xs.length + 1) (fun j => dgt (spl hu (ddig f (pd q g)) k i j)) ∧ wr.rowIs w2.heap.size tU (xs.length + 1) (fun i => dgt (ho i)) ∧ wr.rowIs w.heap.size tU (m + 2 + 1) (fun i => dgt (g i)) ∧ Below w.heap.size w wr) (fun _ _ s174 _ => m + 2 - (intOf s174).toNat)
            case atStart => exact ⟨0, Nat.zero_le _, rfl, rfl, rfl, RU2.out.congr (fun i _ => by rw [spl_zero]), RO2.out, RV2.out, HBz.out⟩
            case round =>
              obtain ⟨i, hi, rfl, rfl, rfl, hru, hro, hrv, hbel⟩ := hrel
              have RU := Lib.hid hru
              have RO := Lib.hid hro
              have RV := Lib.hid hrv
              have HB := Lib.hid hbel
              have bb := bor_le f (pd q g) i
              have cb := pc_lt HQ.out.1 GF.out i hi
              have hu0 := FOK.out i (by omega)
              have hcu := hru.cell (show k + i < xs.length + 1 by omega)
              rw [spl_out (Nat.le_refl _), HF.out] at hcu
              have hfz := hru.frozen (k + i)
              by_cases hlt : i < m + 2
              · have hcv := hrv.cell (show i < m + 2 + 1 by omega)
                have hg0 := GF.out i hlt
                obtain ⟨v1, v2, e1, e2, e3, e4, e5, e6⟩ := less_words2 hu0 (pd_ok q g (i + 1) i (by omega)) bb
                have HS : Hid (ddig f (pd q g) i = v2 % 4294967296) := by rw [e5]; rfl
                have HC : Hid (bor f (pd q g) (i + 1) = v2 / 9223372036854775808) := by rw [e6]; rfl
                have HP : Hid (pc q g (i + 1) = (pc q g i + q * g i) / 4294967296) := rfl
                have hpd : pd q g i = (pc q g i + q * g i) % 4294967296 := rfl
                rw [hpd] at e1
                obtain ⟨sb, pb⟩ := pmul_lt cb HQ.out.1 hg0
                have i1 : (i : Int) < (m : Int) + 2 := by omega
                have i3 : (k : Int) + (i : Int) < (xs.length : Int) + 1 := by omega
                have i4 : ((k : Int) + (i : Int)).toNat = k + i := by omega
                clear e5 e6 hru hro hrv hbel hpd
                generalize bor f (pd q g) i = cc at *
                generalize pc q g i = c at *
                generalize g i = a at *
                generalize f i = u at *
                have p1 : (q : Int) * (a : Int) < 18446744073709551616 := by rw [← Int.natCast_mul]; omega
                have p0 : (0 : Int) ≤ (q : Int) * (a : Int) := Int.mul_nonneg (by omega) (by omega)
                have hSS : (c : Int) + (q : Int) * (a : Int) = ((c + q * a : Nat) : Int) := by rw [Int.natCast_add, Int.natCast_mul]
                generalize hS : c + q * a = S at *
                have s1 : (S : Int) < 18446744073709551616 := by omega
                have e1' : IntKind.u64.wrap ((u : Int) - (S : Int) % 4294967296) = (v1 : Int) := e1
                have HE := Lib.hid (And.intro cb (And.intro bb (And.intro hu0 (And.intro hg0 (And.intro sb pb)))))
                have cb' : (c : Int) < 4294967296 := by omega
                have hu0' : (u : Int) < 4294967296 := by omega
                have hg0' : (a : Int) < 4294967296 := by omega
                have bb' : (cc : Int) ≤ 1 := by omega
                clear e1 cb bb hu0 hg0 sb pb hS
                go_wp2_with fail
                go_roundw
                case rel =>
                  refine ⟨i + 1, by omega, by go_num, ?_, ?_, (RU.out.set (k + i) _).congr (fun j _ => ?_), rowIs_set RO.out (by have := HS2.out; omega) _ _, rowIs_set RV.out (by have := HS1.out; omega) _ _, HB.out.setCell (Nat.le_of_lt HS1.out) _⟩
                  · rw [HP.out]; simp
                  · rw [HC.out]; simp
                  · by_cases h1 : j = k + i
                    · subst h1; rw [if_pos rfl, spl_at (by omega), dgt, HS.out]; simp
                    · rw [if_neg h1, ← spl_set, upd_other h1]
                case measure => simp [intOf]; omega
              · obtain rfl : i = m + 2 := by omega
                have e0 : f (m + 2) = f (m + 2) := rfl
                have hpl := pd_last HQ.out.1 GF.out HG1.out
                have hws := less_words2 hu0 (pd_ok q g (m + 3) (m + 2) (by omega)) bb
                rw [hpl] at hws
                obtain ⟨v1, v2, e1, e2, e3, e4, e5, e6⟩ := hws
                have HS : Hid (ddig f (pd q g) (m + 2) = v2 % 4294967296) := by
                  unfold Hid ddig; rw [hpl]; exact e5.symm
                have HC : Hid (bor f (pd q g) (m + 2 + 1) = v2 / 9223372036854775808) := by
                  rw [e6, ← hpl]; rfl
                have DOK : Hid (fok (ddig f (pd q g)) (m + 3)) := ddig_ok FOK.out (pd_ok q g (m + 3))
                have RUN : Hid (∀ j, j < xs.length + 1 → (if j = k + (m + 2) then v2 % 4294967296 else spl hu (ddig f (pd q g)) k (m + 2) j) = spl hu (ddig f (pd q g)) k (m + 3) j) := fun j _ => by
                  by_cases h : j = k + (m + 2)
                  · subst h; rw [if_pos rfl, spl_at (by omega)]; exact HS.out.symm
                  · have e : spl hu (ddig f (pd q g)) k (m + 2 + 1) j = spl hu (ddig f (pd q g)) k (m + 2) j := by rw [← spl_set hu _ k (m + 2) j, upd_other h]
                    rw [if_neg h]; exact e.symm
                have i3 : (k : Int) + ((m : Int) + 2) < (xs.length : Int) + 1 := by omega
                have i4 : ((k : Int) + ((m : Int) + 2)).toNat = k + (m + 2) := by omega
                have i5 : (k : Int) < (xs.length : Int) + 1 := by omega
                have hok2 := hro.cell (show k < xs.length + 1 by omega)
                have hfk := hro.frozen k
                clear e5 e6 hru hrv hbel hpl e0
                by_cases hfit : q * fv g (m + 2) ≤ fv f (m + 3)
                · obtain ⟨sf1, sf2⟩ := sub_fine FOK.out GF.out HG1.out HQ.out.1 hfit
                  have hb1 : ((v2 : Int) / 9223372036854775808 == 1) = false := by
                    have := HC.out
                    rw [sf1] at this
                    rw [beq_eq_false_iff_ne]; omega
                  have sf2' : fv (ddig f (pd q g)) (m + 3) + q * fv g (m + 2) = fv f (m + 3) := sf2
                  have hV : 0 < fv g (m + 2) := Nat.lt_of_le_of_lt (Nat.zero_le _) hd.out.2.2.2.2.1
                  have hlo := left_ok (W := fv f (m + 3)) hV HQ.out.2.2
                  have hst : fv (ddig f (pd q g)) (m + 3) < fv g (m + 2) := by omega
                  have hfe : fv f (m + 3) = fv (fun i => hu (k + i)) (m + 3) := fv_congr fun i _ => (HF.out i).symm
                  have ST : Hid (DInv g (spl hu (ddig f (pd q g)) k (m + 3)) (upd ho k q) (m + 2) (xs.length + 1) k (dv xs * 2 ^ b)) := hd.out.step GF.out (by omega) DOK.out HQ.out.1 (sf2'.trans hfe) hst
                  clear sf2' hV hlo hst hfe
                  clear sf1 sf2 hfit hro
                  generalize bor f (pd q g) (m + 2) = cc at *
                  generalize pc q g (m + 2) = c at *
                  generalize hu2 : f (m + 2) = u at *
                  have cb' : (c : Int) < 4294967296 := by omega
                  have hu0' : (u : Int) < 4294967296 := by omega
                  have bb' : (cc : Int) ≤ 1 := by omega
                  clear cb hu0 bb
                  go_wp2_with fail
                  go_roundw
                  case rel =>
                    refine ⟨k, _, upd ho k q, by omega, rfl, ST, ?_, (rowIs_set RO.out (by have := HS2.out; omega) _ _).set k _ |>.congr (fun j _ => ?_), rowIs_set (rowIs_set RV.out (by have := HS1.out; omega) _ _) (by have := HS1.out; have := HS2.out; omega) _ _, (HB.out.setCell (Nat.le_of_lt HS1.out) _).setCell (by have := HS1.out; have := HS2.out; show _ ≤ w2.heap.size; omega) _⟩
                    · refine (rowIs_set (RU.out.set (k + (m + 2)) _) (by have := HS2.out; omega) _ _).congr (fun j hj => ?_)
                      rw [← RUN.out j hj]
                      by_cases h : j = k + (m + 2)
                      · rw [if_pos h, if_pos h]; rfl
                      · rw [if_neg h, if_neg h]
                    · by_cases h : j = k
                      · subst h; rw [if_pos rfl, upd_same]
                      · rw [if_neg h, upd_other h]
                  case measure => simp [intOf]
                · obtain ⟨sb1, sb2, sb3, sb4⟩ := sub_back FOK.out GF.out HG1.out HQ.out.1 (Nat.lt_of_not_le hfit) HQ.out.2.1
                  have hb1 : ((v2 : Int) / 9223372036854775808 == 1) = true := by
                    have := HC.out
                    rw [sb1] at this
                    rw [beq_iff_eq]; omega
                  have sb3' : fv (sdig (ddig f (pd q g)) g) (m + 3) + (q - 1) * fv g (m + 2) = fv f (m + 3) := sb3
                  have hfe : fv f (m + 3) = fv (fun i => hu (k + i)) (m + 3) := fv_congr fun i _ => (HF.out i).symm
                  have ST : Hid (DInv g (spl hu (sdig (ddig f (pd q g)) g) k (m + 3)) (upd ho k (q - 1)) (m + 2) (xs.length + 1) k (dv xs * 2 ^ b)) := hd.out.step GF.out (by omega) (sdig_ok _ _ _) (by have := HQ.out.1; omega) (sb3'.trans hfe) sb4
                  have hq1 : (1 : Int) ≤ (q : Int) := by omega
                  have hq1' : Hid (((q - 1 : Nat) : Int) = (q : Int) - 1) := by unfold Hid; omega
                  have CL : Hid (∀ i, i ≤ m + 3 → carry (ddig f (pd q g)) g i ≤ 1) := carry_le DOK.out (fun i hi => by
                    by_cases e : i = m + 2
                    · subst e; rw [HG1.out]; decide
                    · exact GF.out i (by omega))
                  clear sb1 sb2 sb3 sb4 sb3' hfe hfit hro
                  generalize bor f (pd q g) (m + 2) = cc at *
                  generalize pc q g (m + 2) = c at *
                  have cb' : (c : Int) < 4294967296 := by omega
                  have hu0' : (f (m + 2) : Int) < 4294967296 := by omega
                  have bb' : (cc : Int) ≤ 1 := by omega
                  clear cb hu0 bb
                  go_wp2_with fail
                  obtain ⟨wy, hwy⟩ : ∃ wy, wy = wr.setCell ⟨w1.heap.size, k + (m + 2), none⟩ (.int .u32 ((v2 : Int) % 4294967296)) := ⟨_, rfl⟩
                  rw [← hwy]
                  have RU3 : Hid (wy.rowIs w1.heap.size tU (xs.length + 1) fun j => dgt (spl hu (ddig f (pd q g)) k (m + 3) j)) := by
                    rw [hwy]
                    refine (RU.out.set (k + (m + 2)) _).congr (fun j hj => ?_)
                    rw [← RUN.out j hj]
                    by_cases h : j = k + (m + 2)
                    · rw [if_pos h, if_pos h]; rfl
                    · rw [if_neg h, if_neg h]
                  have RO3 : Hid (wy.rowIs w2.heap.size tU (xs.length + 1) fun i => dgt (ho i)) := hwy ▸ rowIs_set RO.out (by have := HS2.out; omega) _ _
                  have RV3 : Hid (wy.rowIs w.heap.size tU (m + 2 + 1) fun i => dgt (g i)) := hwy ▸ rowIs_set RV.out (by have := HS1.out; omega) _ _
                  have HB3 : Hid (Below w.heap.size w wy) := hwy ▸ HB.out.setCell (Nat.le_of_lt HS1.out) _
                  clear hwy hcu hfz hok2 hfk e1 e2 e3 e4 hb1 cb' hu0' bb' RU RO RV HB RUN HS HC
                  generalize ddig f (pd q g) = d at *
                  go_loopw [18, 235] (fun s18 s235 wr => ∃ i : Nat, i ≤ m + 2 ∧ s235 = .int .i64 i ∧ s18 = .int .u64 (carry d g i : Nat) ∧ wr.rowIs w1.heap.size tU (xs.length + 1) (fun j => dgt (spl (spl hu d k (m + 3)) (sdig d g) k i j)) ∧ wr.rowIs w2.heap.size tU (xs.length + 1) (fun i => dgt (ho i)) ∧ wr.rowIs w.heap.size tU (m + 2 + 1) (fun i => dgt (g i)) ∧ Below w.heap.size w wr) (fun _ s235 _ => m + 2 - (intOf s235).toNat)
                  case atStart => exact ⟨0, Nat.zero_le _, rfl, rfl, RU3.out.congr (fun i _ => by rw [spl_zero]), RO3.out, RV3.out, HB3.out⟩
                  case round =>
                    obtain ⟨i, hi, rfl, rfl, hru, hro, hrv, hbel⟩ := hrel
                    have RU := Lib.hid hru
                    have RO := Lib.hid hro
                    have RV := Lib.hid hrv
                    have HB := Lib.hid hbel
                    have cb := CL.out i (by omega)
                    have hd0 := DOK.out i (by omega)
                    have hcu := hru.cell (show k + i < xs.length + 1 by omega)
                    rw [spl_out (Nat.le_refl _), spl_at (by omega)] at hcu
                    have hfz := hru.frozen (k + i)
                    by_cases hlt : i < m + 2
                    · have hcv := hrv.cell (show i < m + 2 + 1 by omega)
                      have hg0 := GF.out i hlt
                      have HP : Hid (carry d g (i + 1) = (carry d g i + d i + g i) / 4294967296) := rfl
                      have HPD : Hid (sdig d g i = (carry d g i + d i + g i) % 4294967296) := rfl
                      have j1 : (i : Int) < (m : Int) + 2 := by omega
                      have j3 : (k : Int) + (i : Int) < (xs.length : Int) + 1 := by omega
                      have j4 : ((k : Int) + (i : Int)).toNat = k + i := by omega
                      clear hru hro hrv hbel
                      generalize carry d g i = c2 at *
                      generalize g i = a at *
                      generalize d i = u at *
                      have hSS : (c2 : Int) + ((u : Int) + (a : Int)) = ((c2 + u + a : Nat) : Int) := by omega
                      generalize hS : c2 + u + a = S at *
                      have s1 : (S : Int) < 18446744073709551616 := by omega
                      have cb' : (c2 : Int) ≤ 1 := by omega
                      have hu0' : (u : Int) < 4294967296 := by omega
                      have hg0' : (a : Int) < 4294967296 := by omega
                      clear cb hd0 hg0 hS
                      go_wp2_with fail
                      go_roundw
                      case rel =>
                        refine ⟨i + 1, by omega, by go_num, ?_, (RU.out.set (k + i) _).congr (fun j _ => ?_), rowIs_set RO.out (by have := HS2.out; omega) _ _, rowIs_set RV.out (by have := HS1.out; omega) _ _, HB.out.setCell (Nat.le_of_lt HS1.out) _⟩
                        · rw [HP.out]; simp
                        · by_cases h1 : j = k + i
                          · subst h1; rw [if_pos rfl, spl_at (by omega), dgt, HPD.out]; simp
                          · rw [if_neg h1, ← spl_set, upd_other h1]
                      case measure => simp [intOf]; omega
                    · obtain rfl : i = m + 2 := by omega
                      have HPD : Hid (sdig d g (m + 2) = (d (m + 2) + carry d g (m + 2)) % 4294967296) := by
                        unfold Hid sdig; rw [HG1.out, Nat.add_zero, Nat.add_comm]
                      have j3 : (k : Int) + ((m : Int) + 2) < (xs.length : Int) + 1 := by omega
                      have j4 : ((k : Int) + ((m : Int) + 2)).toNat = k + (m + 2) := by omega
                      have j5 : (k : Int) < (xs.length : Int) + 1 := by omega
                      have hok2 := hro.cell (show k < xs.length + 1 by omega)
                      have hfk := hro.frozen k
                      clear hru hro hrv hbel
                      generalize carry d g (m + 2) = c2 at *
                      generalize hdm : d (m + 2) = u at *
                      have cb' : (c2 : Int) ≤ 1 := by omega
                      have hu0' : (u : Int) < 4294967296 := by omega
                      clear cb hd0
                      go_wp2_with fail
                      go_roundw
                      case rel =>
                        refine ⟨k, _, upd ho k (q - 1), by omega, rfl, ST, ?_, ((rowIs_set RO.out (by have := HS2.out; omega) _ _).set k _).congr (fun j _ => ?_), rowIs_set (rowIs_set RV.out (by have := HS1.out; omega) _ _) (by have := HS1.out; have := HS2.out; omega) _ _, (HB.out.setCell (Nat.le_of_lt HS1.out) _).setCell (by have := HS1.out; have := HS2.out; show _ ≤ w2.heap.size; omega) _⟩
                        · refine (rowIs_set (RU.out.set (k + (m + 2)) _) (by have := HS2.out; omega) _ _).congr (fun j hj => ?_)
                          have e0 : spl hu (sdig d g) k (m + 2 + 1) j = spl (spl hu d k (m + 3)) (sdig d g) k (m + 2 + 1) j := (spl_spl hu d (sdig d g) k (m + 3) j).symm
                          have e1 : spl hu (sdig d g) k (m + 3) j = upd (spl (spl hu d k (m + 3)) (sdig d g) k (m + 2)) (k + (m + 2)) (sdig d g (m + 2)) j := e0.trans (spl_set (spl hu d k (m + 3)) (sdig d g) k (m + 2) j).symm
                          rw [e1]
                          by_cases h : j = k + (m + 2)
                          · subst h; rw [if_pos rfl, upd_same, HPD.out]; rfl
                          · rw [if_neg h, upd_other h]
                        · by_cases h : j = k
                          · subst h; rw [if_pos rfl, upd_same]; exact val_32 hq1'.out.symm
                          · rw [if_neg h, upd_other h]
                      case measure => simp [intOf]
theorem parts_any (Ax Ay : Option Addr) (xs ys : List Nat) (cx cy : Nat) (w : World) (hx : Digs w Ax xs) (hy : Digs w Ay ys) (kx : dok xs) (ky : dok ys) (ny : dnorm ys) (h0 : 0 < ys.length) (lx : xs.length < 8796093022207) (hle : ys.length ≤ xs.length) :
    Calls Try.prog 131 #[.slice Ax xs.length cx, .slice Ay ys.length cy] w fun e w' => TwoDigs w e w' fun ds es => ds.length ≤ xs.length + 1 ∧ es.length ≤ ys.length ∧ dv ds = dv xs / dv ys ∧ dv es = dv xs % dv ys := by
  obtain ⟨ay, rfl, _⟩ := hy.1 (by rw [u32s_len]; exact h0)
  by_cases h1 : ys.length = 1
  · refine (parts_one Ax ay xs ys cx cy w hx hy kx ky h1 (by have := ny h0; rwa [h1] at this) (by omega)).mono ?_
    rintro e w' ⟨A, c, ds, B, d, es, he, a1, a2, a3, a4, a5, a6, ⟨l1, l2, v1, v2⟩, a8⟩
    exact ⟨A, c, ds, B, d, es, he, a1, a2, a3, a4, a5, a6, ⟨by omega, by omega, v1, v2⟩, a8⟩
  · obtain ⟨m, hm⟩ : ∃ m, ys.length = m + 2 := ⟨ys.length - 2, by omega⟩
    refine (parts_many Ax ay xs ys cx cy m w hx hy kx ky hm (by have := ny h0; rwa [hm] at this) lx (by omega)).mono ?_
    rintro e w' ⟨A, c, ds, B, d, es, he, a1, a2, a3, a4, a5, a6, ⟨l1, l2, v1, v2⟩, a8⟩
    exact ⟨A, c, ds, B, d, es, he, a1, a2, a3, a4, a5, a6, ⟨by omega, by omega, v1, v2⟩, a8⟩
end Go.Proofs.Ytkffakekakhgdaa
