/- The reference: OFind, walked. No condition but the list's own length. -/
import Derived.Test.YtaehehoeidnidaaQuaV
import Derived.Test.YtaehehoeidnidaaQuaS
import Derived.Deep.DeepCutAuto
namespace Go.Proofs.Ytaehehoeidnidaa
open Go.ChangeShapes Go.WideShapes Go.ChangeAt Go.RowKit
set_option linter.unusedVariables false

set_option maxRecDepth 20000 in
set_option maxHeartbeats 4000000 in
theorem ofind_any (parts : Int) (A : Option Addr) (ps : List Rk) (c : Nat) (place : Int) (w : World) (hs : Seg w w.heap.size A (flat3 ps)) (hc : ps.length ≤ c) (hm : ps.length ≤ 9223372036854775807) :
    Calls Try.prog 85 #[.int .i64 parts, .slice A ps.length c, .int .i64 place] w (FOut (qfindR parts ps place) w) := by
  obtain ⟨w2, hw2⟩ : ∃ w2, w2 = (w.alloc (.cells #[.slice A ps.length c] 96)).alloc (.cells #[.int .i64 place] 3) := ⟨_, rfl⟩
  have hbw : Below w.heap.size w w2 := by rw [hw2]; exact ((Below.refl _ _).alloc (Nat.le_refl _) _).alloc (by simp) _
  have HBW := Lib.hid hbw
  have HS2 : Hid (Seg w2 w2.heap.size A (flat3 ps)) := (hs.below hbw).more hbw.size
  have HL1 : w2.cell? ⟨w.heap.size, 0, none⟩ = some (.slice A ps.length c) := by
    rw [hw2]; exact ((Blk.new w 96 #[.slice A ps.length c]).alloc _).cell 0 rfl
  have HP1 : w2.cell? ⟨w.heap.size + 1, 0, none⟩ = some (.int .i64 place) := by
    have h := Blk.new (w.alloc (.cells #[.slice A ps.length c] 96)) 3 #[.int .i64 place]
    rw [show (w.alloc (.cells #[.slice A ps.length c] 96)).heap.size = w.heap.size + 1 by simp] at h
    rw [hw2]; exact h.cell 0 rfl
  have HM := Lib.hid hm
  have HC := Lib.hid hc
  have HW2 := Lib.hid hw2
  have HLL := Lib.hid HL1
  have HPP := Lib.hid HP1
  clear hs hm hc hbw hw2
  by_cases hq : QOk parts ps
  · have HQ := Lib.hid (qokT hq)
    have HOK := Lib.hid hq
    clear hq
    by_cases h1 : place < 1
    · have HF : Hid (qfindR parts ps place = (0, 3)) := by unfold Hid qfindR; rw [if_neg (by rw [HQ.out]; simp), if_pos (.inl h1)]
      have b1 : decide (place < 1) = true := decide_eq_true h1
      clear h1
      go_enter Try.func85, Try.ntmps85
      go_wp2_with fail
      rw [← HW2.out]
      refine (oright_any parts A ps c _ HS2.out HM.out).mono ?_
      rintro e w1 ⟨rfl, hb⟩
      rw [HQ.out]
      have HB := Lib.hid hb
      have d0 := (hb.cell (block_lt HL1)).trans HL1
      have d1 := (hb.cell (block_lt HP1)).trans HP1
      clear hb HL1 HP1
      go_wp2_with fail
      go_quiet (fail)
      go_wp2_with fail
      go_ret2
      exact ⟨by rw [HF.out]; rfl, below_drewN (HBW.out.trans (HB.out.mono HBW.out.size)) _⟩
    · have b1 : decide (place < 1) = false := decide_eq_false h1
      have HP0 := Lib.hid h1
      clear h1
      go_enter Try.func85, Try.ntmps85
      go_wp2_with fail
      rw [← HW2.out]
      refine (oright_any parts A ps c _ HS2.out HM.out).mono ?_
      rintro e w1 ⟨rfl, hb⟩
      rw [HQ.out]
      have HB := Lib.hid hb
      have d0 := (hb.cell (block_lt HL1)).trans HL1
      have d1 := (hb.cell (block_lt HP1)).trans HP1
      have HD0 := Lib.hid d0
      have HD1 := Lib.hid d1
      have HS1 : Hid (Seg w1 w1.heap.size A (flat3 ps)) := (HS2.out.below hb).more hb.size
      clear hb HL1 HP1
      go_upto_region 3 with (fail)
      go_cut [22] (fun s22 wx => s22 = .bool (decide (qsum ps < place)) ∧ Hid (Below w1.heap.size w1 wx))
      case first =>
        have HS1d : Hid (Seg w1.drew w1.drew.heap.size A (flat3 ps)) := HS1.out
        go_region_with (go_at_call 91; refine (oall_any A ps c w1.drew HS1d.out HOK.out.len HOK.out.one).mono ?_; rintro e u1 ⟨rfl, hp⟩; have HX := Lib.hid hp; have d1' := (hp.cell (block_lt HD1.out)).trans HD1.out; have HDR : Hid (Below w1.heap.size w1 u1) := ((Below.refl _ _).drew).trans hp; clear hp)
        all_goals go_wp2_with fail
        all_goals go_meet
        all_goals exact ⟨rfl, HDR⟩
      case rest =>
        obtain ⟨rfl, hb2⟩ := hcut
        have HB2 : Hid (Below w2.heap.size w2 wc) := HB.out.trans (hb2.out.mono HB.out.size)
        have e0 := (HB2.out.cell (block_lt HLL.out)).trans HLL.out
        clear d0 d1 hb2 b1
        by_cases h2 : qsum ps < place
        · have HF : Hid (qfindR parts ps place = (0, 3)) := by unfold Hid qfindR; rw [if_neg (by rw [HQ.out]; simp), if_pos (.inr h2)]
          rw [decide_eq_true h2]
          clear h2
          go_wp2_with fail
          go_ret2
          exact ⟨by rw [HF.out]; rfl, HBW.out.trans (HB2.out.mono HBW.out.size)⟩
        · have hall := HOK.out.all
          have HPl : Hid (1 ≤ place ∧ place ≤ 1099511627776) := by have := HP0.out; unfold Hid; omega
          have HF : Hid (qfindR parts ps place = ((kat ps (qbest ps place ps.length)).1, 0)) := by unfold Hid qfindR; have := HP0.out; rw [if_neg (by rw [HQ.out]; simp), if_neg (by omega)]
          have HLp : Hid (0 < ps.length) := by
            have h0 := HPl.out.1
            unfold Hid
            cases ps with
            | nil => simp [qsum] at h2; omega
            | cons _ _ => simp
          have HL4 : Hid (ps.length ≤ 400) := HOK.out.len
          rw [decide_eq_false h2]
          clear h2 hall
          go_wp2_with fail
          clear e0
          go_loopw [9, 26] (fun s9 s26 wx => ∃ k : Nat, k ≤ ps.length ∧ s9 = .int .i64 (qbest ps place k : Nat) ∧ s26 = .int .i64 k ∧ Hid (Below w2.heap.size w2 wx)) (fun _ s26 _ => ps.length - (intOf s26).toNat)
          case atStart => exact ⟨0, Nat.zero_le _, rfl, rfl, HB2.out⟩
          case round =>
            obtain ⟨k, hk, rfl, rfl, hb3⟩ := hrel
            have HSr : Hid (Seg wr wr.heap.size A (flat3 ps)) := (HS2.out.below hb3.out).more hb3.out.size
            have f0 := (hb3.out.cell (block_lt HLL.out)).trans HLL.out
            have f1 := (hb3.out.cell (block_lt HPP.out)).trans HPP.out
            have HF0 := Lib.hid f0
            have HF1 := Lib.hid f1
            by_cases hlt : k < ps.length
            · have i1 : (k : Int) < (ps.length : Int) := by omega
              have hbl : qbest ps place k < ps.length := by
                rcases Nat.eq_zero_or_pos k with rfl | h0
                · exact HLp.out
                · have := qbest_lt ps place k h0; omega
              have HBE : Hid (qbest ps place (k + 1) = if qdist ps place k < qdist ps place (qbest ps place k) then k else qbest ps place k) := rfl
              obtain ⟨bq, hbq⟩ : ∃ bq, bq = qbest ps place k := ⟨_, rfl⟩
              rw [← hbq] at hbl HBE ⊢
              have HBL := Lib.hid hbl
              have HK := Lib.hid (And.intro hk hlt)
              have uk : Hid (wrap64 ((k : Int) + 1) = ((k + 1 : Nat) : Int)) := qk64 (by have := HL4.out; omega)
              clear hbq hbl hk hlt
              go_wp2_with fail
              refine (far_any k _ _ A ps c place wr HK.out.2 HC.out HSr.out HOK.out HPl.out HF0.out HF1.out).mono ?_
              rintro e u1 ⟨rfl, hp1⟩
              have HP1 := Lib.hid hp1
              have HSu : Hid (Seg u1 u1.heap.size A (flat3 ps)) := (HSr.out.below hp1).more hp1.size
              have HG0 : Hid (u1.cell? ⟨w.heap.size, 0, none⟩ = some (.slice A ps.length c)) := (hp1.cell (block_lt HF0.out)).trans HF0.out
              have HG1 : Hid (u1.cell? ⟨w.heap.size + 1, 0, none⟩ = some (.int .i64 place)) := (hp1.cell (block_lt HF1.out)).trans HF1.out
              clear hp1 f0 f1
              go_wp2_with fail
              refine (far_any bq _ _ A ps c place u1 HBL.out HC.out HSu.out HOK.out HPl.out HG0.out HG1.out).mono ?_
              rintro e u2 ⟨rfl, hp2⟩
              have HP2 := Lib.hid (hb3.out.trans ((HP1.out.trans (hp2.mono HP1.out.size)).mono hb3.out.size))
              clear hp2
              obtain ⟨D1, hD1⟩ : ∃ D1, D1 = qdist ps place k := ⟨_, rfl⟩
              obtain ⟨D2, hD2⟩ : ∃ D2, D2 = qdist ps place bq := ⟨_, rfl⟩
              rw [← hD1, ← hD2] at HBE
              rw [← hD1, ← hD2]
              clear hD1 hD2
              by_cases hd : D1 < D2
              · have b1 : decide (D1 < D2) = true := decide_eq_true hd
                have HE : Hid (qbest ps place (k + 1) = k) := by unfold Hid; rw [HBE.out, if_pos hd]
                clear hd
                go_wp2_with fail
                go_roundw
                case rel => exact ⟨k + 1, by have := HK.out; omega, by rw [HE.out], by first | rfl | rw [uk.out], HP2.out⟩
                case measure => (try rw [uk.out]); have := HK.out; simp [intOf]; omega
              · have b1 : decide (D1 < D2) = false := decide_eq_false hd
                have HE : Hid (qbest ps place (k + 1) = bq) := by unfold Hid; rw [HBE.out, if_neg hd]
                clear hd
                go_wp2_with fail
                go_roundw
                case rel => exact ⟨k + 1, by have := HK.out; omega, by rw [HE.out], by first | rfl | rw [uk.out], HP2.out⟩
                case measure => (try rw [uk.out]); have := HK.out; simp [intOf]; omega
            · obtain rfl : k = ps.length := by omega
              have hbl := qbest_lt ps place ps.length HLp.out
              obtain ⟨ad, rfl, _, c0, _, _⟩ := HSr.out.trip hbl
              obtain ⟨bq, hbq⟩ : ∃ bq, bq = qbest ps place ps.length := ⟨_, rfl⟩
              rw [← hbq] at c0 hbl HF ⊢
              have i2 : (bq : Int) < (ps.length : Int) := by omega
              clear hbq hbl f1
              go_wp2_with fail
              go_ret2
              exact ⟨by rw [HF.out]; rfl, HBW.out.trans (hb3.out.mono HBW.out.size)⟩
  · have HQ := Lib.hid (qokF hq)
    have HF : Hid (qfindR parts ps place = (0, 1)) := by unfold Hid qfindR; rw [if_pos HQ.out]
    clear hq
    go_enter Try.func85, Try.ntmps85
    go_wp2_with fail
    rw [← HW2.out]
    refine (oright_any parts A ps c _ HS2.out HM.out).mono ?_
    rintro e w1 ⟨rfl, hb⟩
    rw [HQ.out]
    have HB := Lib.hid hb
    clear hb HL1 HP1
    go_wp2_with fail
    go_ret2
    exact ⟨by rw [HF.out]; rfl, HBW.out.trans (HB.out.mono HBW.out.size)⟩
end Go.Proofs.Ytaehehoeidnidaa
