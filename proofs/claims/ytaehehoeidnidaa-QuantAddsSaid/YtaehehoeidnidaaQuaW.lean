/- Package quant: squeeze, walked. No condition but the bounds. -/
import Derived.Test.YtaehehoeidnidaaQuaE
import Derived.Test.YtaehehoeidnidaaQuaC
import Derived.StillTailTactics
import Derived.IntWalk
namespace Go.Proofs.Ytaehehoeidnidaa
open Go.ChangeShapes Go.WideShapes Go.ChangeAt Go.RowKit
set_option linter.unusedVariables false

def qsqz (parts : Int) (ps : List Rk) : List Rk := qst (2 * qsum ps / parts) ps 1
theorem QB.pre {ps : List Rk} (h : QB ps) (hs : qsum ps ≤ 2199023255552) : ∀ k, k ≤ ps.length → 0 ≤ qsum (ps.take k) ∧ qsum (ps.take k) ≤ 439804651110400 := fun k _ => by
  have h1 := (h.take k).sum.1
  have h2 := (h.drop k).sum.1
  have h3 : qsum ps = qsum (ps.take k) + qsum (ps.drop k) := by rw [← qsum_app, List.take_append_drop]
  omega
set_option maxRecDepth 20000 in
set_option maxHeartbeats 4000000 in
theorem squeeze_any (parts : Int) (v : Value) (ps : List Rk) (w : World) (base : Nat) (hown : Own3 w base v ps) (hbase : base ≤ w.heap.size) (hp : 1 ≤ parts ∧ parts ≤ 100) (hl : 1 ≤ ps.length ∧ ps.length ≤ 400) (hq : QB ps) (hs : qsum ps ≤ 2199023255552) :
    Calls Try.prog 143 #[.int .i64 parts, v] w (InsOut base (qsqz parts ps) w) := by
  obtain ⟨A, c, rfl, hc, hseg⟩ := hown.seg
  have HO := Lib.hid hown
  have HSeg := Lib.hid hseg
  have HP := Lib.hid hp
  have HL := Lib.hid hl
  have HQ := Lib.hid hq
  have hq0 := hq.sum.1
  have HPre : Hid (∀ k, k ≤ ps.length → 0 ≤ qsum (ps.take k) ∧ qsum (ps.take k) ≤ 439804651110400) := hq.pre hs
  obtain ⟨S, hS⟩ : ∃ S, S = qsum ps := ⟨_, rfl⟩
  have HSS := Lib.hid hS
  rw [← hS] at hs hq0
  obtain ⟨M, hM⟩ : ∃ M, M = 2 * S / parts := ⟨_, rfl⟩
  have HM : Hid (qsqz parts ps = qst M ps 1) := by unfold Hid qsqz; rw [hM, hS]
  have hM1 : 0 ≤ M ∧ M ≤ 4398046511104 := by rw [hM]; exact ⟨Int.ediv_nonneg (by omega) (by omega), Int.le_trans (Int.ediv_le_self _ (by omega)) (by omega)⟩
  have HMb := Lib.hid hM1
  have hp1 : 1 ≤ parts := hp.1
  have m1 : IntKind.i64.wrap (2 * S) = 2 * S := IntWalk.i64_in _ (by omega)
  have m2 : wrap64 (2 * S) = 2 * S := qw64 (by omega) (by omega)
  have m3 : (2 * S).tdiv parts = M := by rw [hM]; exact Int.tdiv_eq_ediv_of_nonneg (by omega)
  have m4 : 2 * S / parts = M := hM.symm
  obtain ⟨e1, e2⟩ := hM1
  obtain ⟨e3, e4⟩ := hl
  have p0 : (parts == 0) = false := by simp; omega
  have b2 : 0 ≤ 2 * S := by omega
  clear hown hseg hp hq hS hM
  go_enter Try.func143, Try.ntmps143
  go_wp2_with fail
  refine (count_gen A ps c _ HSeg.out HL.out.2 HPre.out).mono ?_
  rintro e w1 ⟨rfl, hb1⟩
  rw [← HSS.out]
  have HB1 := Lib.hid hb1
  clear hb1
  go_wp2_with fail
  clear m1 m2 m3 m4 p0 b2
  have HS1 : Hid (qst M ps (ps.length - 1) = ps) := qst_start M ps HL.out.1
  go_loopw [1, 6] (fun s1 s6 wx => ∃ (K : Nat) (x : Int), K + 1 ≤ ps.length ∧ s6 = .int .i64 x ∧ Hid (x = (K : Int) - 1) ∧ Hid (Own3 wx base s1 (qst M ps K)) ∧ Hid (Below base w wx) ∧ Hid (K = 0 → ps.length = 1)) (fun _ s6 _ => (intOf s6).toNat)
  case atStart => exact ⟨ps.length - 1, _, by omega, rfl, by unfold Hid; omega, by unfold Hid; rw [HS1.out]; exact HO.out.below HB1.out (Nat.le_refl _), HB1.out.mono hbase, fun h => by omega⟩
  case round =>
    obtain ⟨K, x, hK, rfl, hx, ho, hb, h0⟩ := hrel
    by_cases hlt : 1 ≤ x
    · obtain ⟨J, rfl⟩ : ∃ J : Nat, K = J + 1 := ⟨K - 1, by have := hx.out; omega⟩
      obtain rfl : x = (J : Int) := by have := hx.out; omega
      obtain ⟨hst1, hst2⟩ := qst_step M ps J hK
      obtain ⟨l, hl⟩ : ∃ l, l = qst M ps (J + 1) := ⟨_, rfl⟩
      rw [← hl] at ho hst1 hst2
      have hQB : QB l := by rw [hl]; exact HQ.out.qst M (J + 1)
      have hsum : qsum l = S := by rw [hl, qst_sum, ← HSS.out]
      rcases ho.out.open_ with ⟨rfl, rfl⟩ | ⟨g, cap, X, rfl, hg, hh, hn, hm, hX⟩
      · simp at hst1
      · obtain ⟨c0, c1, c2⟩ := row_cells hh (show J < l.length by omega)
        obtain ⟨f0, f1, f2⟩ := row_cells hh hst1
        have q1 := hQB _ (kat_mem (show J < l.length by omega))
        have q2 := hQB _ (kat_mem hst1)
        have q3 := hQB.sum.2 _ (kat_mem (show J < l.length by omega))
        have q4 := hQB.sum.2 _ (kat_mem hst1)
        rw [hsum] at q3 q4
        obtain ⟨a, ha⟩ : ∃ a, a = (kat l J).2.1 := ⟨_, rfl⟩
        obtain ⟨b, hb'⟩ : ∃ b, b = (kat l (J + 1)).2.1 := ⟨_, rfl⟩
        obtain ⟨d, hd⟩ : ∃ d, d = (kat l (J + 1)).2.2 := ⟨_, rfl⟩
        rw [← ha, ← hb', ← hd] at hst2
        rw [← ha] at c1 q1 q3
        rw [← hb'] at f1 q2 q4
        rw [← hd] at f2 q2
        obtain ⟨J1, hJ1⟩ : ∃ J1, J1 = J + 1 := ⟨_, rfl⟩
        have HJ := Lib.hid hJ1
        have HQB := Lib.hid hQB
        have HHH := Lib.hid hh
        have HX := Lib.hid hX
        have HN := Lib.hid (And.intro hn hm)
        have HST1 := Lib.hid hst1
        have HST2 := Lib.hid hst2
        have HLL := Lib.hid hl
        have HSUM := Lib.hid hsum
        have HABD := Lib.hid (And.intro ha (And.intro hb' hd))
        have HK := Lib.hid hK
        have HLT := Lib.hid hlt
        have r1 : a + b ≤ 8796093022208 := by omega
        have r2 : a + b + d ≤ 8796093022208 := by omega
        have i0 : (J : Int) < (l.length : Int) := by omega
        have i1 : (J1 : Int) < (l.length : Int) := by omega
        have w0 : IntKind.i64.wrap ((J : Int) + 1) = (J1 : Int) := by rw [hJ1]; exact IntWalk.i64_in _ (by have := HL.out; omega)
        have w1' : IntKind.i64.wrap (a + b) = a + b := IntWalk.i64_in _ (by omega)
        have w2' : IntKind.i64.wrap (a + b + d) = a + b + d := IntWalk.i64_in _ (by omega)
        have w3' : IntKind.i64.wrap (b + a) = b + a := IntWalk.i64_in _ (by omega)
        have W9 : Hid (wrap64 ((J : Int) + 1) = (J : Int) + 1) := qw64 (by omega) (by have := HL.out; omega)
        have uJ : Hid (wrap64 ((J : Int) - 1) = (J : Int) - 1) := qw64 (by omega) (by have := HL.out; omega)
        rw [← hJ1] at f0 f1 f2
        clear hJ1 hQB hh hX hn hm hst1 hst2 hl hsum ha hb' hd q1 q2 q3 q4 hK ho
        by_cases hc : a + b + d ≤ M
        · have b1 : decide (a + b + d ≤ M) = true := decide_eq_true hc
          have HC := Lib.hid hc
          clear hc
          go_wp2_with fail
          go_quiet (fail)
          go_wp2_with fail
          generalize hwz : wr.drewN _ = wz
          have HH2 : Hid (wz.heap[g]? = some (.cells (flat3 l ++ X).toArray 104 (0, 0))) := by unfold Hid; rw [← hwz]; exact HHH.out
          have HB2 : Hid (Below base w wz) := by unfold Hid; rw [← hwz]; exact below_drewN hb.out _
          have g1 : wz.cell? ⟨g, J1 * 3 + 1, none⟩ = some (.int .i64 b) := by rw [← hwz]; exact f1
          have g0 : wz.cell? ⟨g, J * 3 + 1, none⟩ = some (.int .i64 a) := by rw [← hwz]; exact c1
          have fz : wz.frozen? ⟨g, J1 * 3 + 1, none⟩ = false := Blk.frozen (t := 104) HH2.out (J1 * 3 + 1)
          clear hwz c0 c1 c2 f0 f1 f2
          go_still_tail 14, (by kernel_rfl)
          change wpList _ _ _ _ _ wz.drew
          have w9 : wrap64 ((J : Int) + 1) = (J : Int) + 1 := W9.out
          have HO3 : Hid (Own3 (wz.drew.setCell ⟨g, J1 * 3 + 1, none⟩ (.int .i64 (b + a))) base (.slice (some ⟨g, 0, none⟩) l.length cap) (l.set J1 ((kat l J1).1, b + a, (kat l J1).2.2))) :=
            Own3.setgap (w := wz.drew) hg HH2.out HN.out.1 HN.out.2 HX.out (by have := HST1.out; rw [HJ.out]; exact this) (b + a)
          obtain ⟨l2, hl2⟩ : ∃ l2, l2 = l.set J1 ((kat l J1).1, b + a, (kat l J1).2.2) := ⟨_, rfl⟩
          rw [← hl2] at HO3
          have HL2 : Hid (l2.length = l.length) := by unfold Hid; rw [hl2, List.length_set]
          have HE : Hid (qst M ps J = l2.take J ++ l2.drop (J + 1)) := by
            unfold Hid
            rw [HST2.out, if_pos HC.out, hl2, HABD.out.2.2, HJ.out]
          clear hl2 w0 w1' w2' w3'
          have HB3 : Hid (Below base w (wz.drew.setCell ⟨g, J1 * 3 + 1, none⟩ (.int .i64 (b + a)))) := (HB2.out.drew).setCell hg _
          go_wp2_with fail
          rw [← HL2.out]
          rw [← HL2.out] at HO3
          refine (delete_any _ l2 J _ base HO3.out (by have := HST1.out; rw [HL2.out]; exact this)).mono ?_
          rintro e w5 ⟨v5, rfl, ho5, hb5⟩
          have HO5 := Lib.hid ho5
          have HB5 := Lib.hid hb5
          clear ho5 hb5
          go_wp2_with fail
          clear w9
          go_roundw
          case rel => exact ⟨J, _, by have := HK.out; omega, rfl, uJ.out, by unfold Hid; rw [HE.out]; exact HO5.out, HB3.out.trans HB5.out, fun h => by have := HLT.out; omega⟩
          case measure => rw [uJ.out]; simp [intOf]; have := HLT.out; omega
        · have b1 : decide (a + b + d ≤ M) = false := decide_eq_false hc
          have HE : Hid (qst M ps J = l) := by unfold Hid; rw [HST2.out, if_neg hc]
          clear hc
          go_wp2_with fail
          go_quiet (fail)
          go_wp2_with fail
          go_roundw
          case rel => exact ⟨J, _, by have := HK.out; omega, rfl, uJ.out, by unfold Hid; rw [HE.out]; exact Own3.drewN (Own3.mk_ hg HHH.out HN.out.1 HN.out.2 HX.out (by rw [← flat3_len, List.take_left])) _, below_drewN hb.out _, fun h => by have := HLT.out; omega⟩
          case measure => rw [uJ.out]; simp [intOf]; have := HLT.out; omega
    · have hfin : Hid (qst M ps K = qst M ps 1) := by
        have h1 := hx.out
        rcases (by omega : K = 1 ∨ K = 0) with rfl | rfl
        · rfl
        · have h2 := h0.out rfl
          have h3 := HS1.out
          rw [h2] at h3
          unfold Hid
          rw [h3]
          obtain ⟨r, hr⟩ := List.length_eq_one_iff.1 h2
          rw [hr]
          rfl
      rw [hfin.out] at ho
      go_wp2_with fail
      go_ret
      exact ⟨_, rfl, by rw [HM.out]; exact ho.out, hb.out⟩
end Go.Proofs.Ytaehehoeidnidaa
