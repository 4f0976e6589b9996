/- Package quant: Add, walked, where there is room. No condition. -/
import Derived.Test.YtaehehoeidnidaaQuaB
namespace Go.Proofs.Ytaehehoeidnidaa
open Go.ChangeShapes Go.WideShapes Go.ChangeAt Go.RowKit
set_option linter.unusedVariables false

theorem qsqz_all (parts : Int) (ps : List Rk) (x : Int) : qsqz parts (qall ps x) = qnew parts ps x := qst_end parts ps x 1 (Nat.le_refl _) (fun h => by cases h)
set_option maxRecDepth 20000 in
set_option maxHeartbeats 4000000 in
theorem add_good (parts : Int) (A : Option Addr) (ps : List Rk) (c : Nat) (x : Int) (w : World) (hs : Seg w w.heap.size A (flat3 ps)) (hm : ps.length ≤ 9223372036854775807) (hq : QOk parts ps) (hf : ¬ (ps.length = 400 ∨ qsum ps = 1099511627776)) :
    Calls Try.prog 82 #[.int .i64 parts, .slice A ps.length c, .int .i64 x] w (KOut w.heap.size (qaddR parts ps x) w) := by
  have HS := Lib.hid hs
  have HM := Lib.hid hm
  have HQ := Lib.hid (qokT hq)
  have HOK := Lib.hid hq
  have HF : Hid (qaddR parts ps x = (qnew parts ps x, 0)) := by unfold Hid qaddR; rw [if_neg (by rw [qokT hq]; simp), if_neg hf]
  have hl := hq.len
  have HL : Hid (ps.length < 400) := by unfold Hid; omega
  have b1 : ((ps.length : Int) == 400) = false := by simp; omega
  have b2 : (ps.length == 400) = false := by simp; omega
  have b3 : (qsum ps == 1099511627776) = false := by simp; omega
  clear hs hm hq hf hl
  go_enter Try.func82, Try.ntmps82
  go_wp2_with fail
  refine (right_any parts A ps c _ HS.out HM.out).mono ?_
  rintro e w1 ⟨rfl, hb⟩
  rw [HQ.out]
  have HB := Lib.hid hb
  clear hb
  go_wp2_with fail
  refine (count_any A ps c _ ((HS.out.below HB.out).more HB.out.size) HOK.out.len HOK.out.one).mono ?_
  rintro e w2 ⟨rfl, hb⟩
  have HB2 := Lib.hid (HB.out.trans (hb.mono HB.out.size))
  clear hb
  go_wp2_with fail
  clear b1 b2 b3
  go_loop [8] (fun s8 => ∃ k : Nat, k ≤ ps.length ∧ s8 = .int .i64 k ∧ Hid (∀ i, i < k → (kat ps i).1 ≤ x)) (fun s8 => ps.length - (intOf s8).toNat)
  case atStart => exact ⟨0, Nat.zero_le _, rfl, fun i h => absurd h (Nat.not_lt_zero _)⟩
  case round =>
    obtain ⟨k, hk, rfl, hlow⟩ := hrel
    by_cases hc : k < ps.length ∧ (kat ps k).1 ≤ x
    · obtain ⟨hlt, hle⟩ := hc
      have i1 : (k : Int) < (ps.length : Int) := by omega
      obtain ⟨ad, rfl, _, c0, _, _⟩ := HS.out.trip hlt
      have d0 := (HB2.out.cell (block_lt c0)).trans c0
      obtain ⟨N, hN⟩ : ∃ N, N = (kat ps k).1 := ⟨_, rfl⟩
      rw [← hN] at d0 hle
      have HN := Lib.hid hN
      have b4 : decide (N ≤ x) = true := decide_eq_true hle
      have HLE := Lib.hid hle
      have HK := Lib.hid (And.intro hk hlt)
      have uk : Hid (wrap64 ((k : Int) + 1) = ((k + 1 : Nat) : Int)) := qk64 (by have := HL.out; omega)
      clear c0 hN hle hlt hk
      go_wp2_with fail
      go_round
      case rel =>
        have := HK.out
        refine ⟨k + 1, by omega, by first | rfl | rw [uk.out], fun i hi => ?_⟩
        rcases (by omega : i < k ∨ i = k) with hi | rfl
        · exact hlow.out i hi
        · rw [← HN.out]; exact HLE.out
      case measure => (try rw [uk.out]); have := HK.out; simp [intOf]; omega
    · have hup : Hid (k < ps.length → x < (kat ps k).1) := fun h => by
        by_cases h2 : (kat ps k).1 ≤ x
        · exact absurd ⟨h, h2⟩ hc
        · omega
      have HK := Lib.hid hk
      rcases (by omega : k = ps.length ∨ (k < ps.length ∧ k = 0) ∨ (k < ps.length ∧ 0 < k)) with he | ⟨hlt, he⟩ | ⟨hlt, he⟩
      · clear hc
        subst he
        by_cases hz : 0 < ps.length
        · have b5 : decide (0 < (ps.length : Int)) = true := decide_eq_true (by omega)
          have b6 : decide (0 < ps.length) = true := decide_eq_true hz
          clear hz
          go_wp2_with fail
          have HQF := Lib.hid (qall_facts HOK.out x (0) ps.length (by omega) HL.out)
          have HQA : Hid (qall ps x = ps.take ps.length ++ (x, 1, 0) :: ps.drop ps.length) := qall_end HK.out hlow.out hup.out (.inr rfl)
          refine (clone_any A ps c _ ((HS.out.below HB2.out).more HB2.out.size) HOK.out.len).mono ?_
          rintro e w3 ⟨v3, rfl, ho3, hb3⟩
          have HO3 := Lib.hid ho3
          have HB3 := Lib.hid hb3
          clear ho3 hb3
          go_wp2_with fail
          refine (insert_any v3 ps ps.length (x, 1, 0) _ _ (w2).heap.size (HO3.out.alloc _) HK.out (by have := HL.out; omega) (Blk.new w3 _ _) (fun h => by have := (World.ownsRow.lt HO3.out _ h).2; omega) (by have := HB3.out.size; simp; omega)).mono ?_
          rintro e w4 ⟨v4, rfl, ho4, hb4⟩
          rw [← HQA.out] at ho4
          have HO4 := Lib.hid ho4
          have HB4 := Lib.hid (((HB3.out.alloc HB3.out.size _)).trans hb4)
          clear ho4 hb4
          have HQF2 := HQF
          rw [← HQA.out] at HQF2
          go_wp2_with fail
          refine (squeeze_any parts v4 (qall ps x) _ (w2).heap.size HO4.out HB4.out.size ⟨HOK.out.lo, HOK.out.hi⟩ HQF2.out.1 HQF2.out.2.1 HQF2.out.2.2).mono ?_
          rintro e w5 ⟨v5, rfl, ho5, hb5⟩
          have HO5 := Lib.hid ho5
          have HB5 := Lib.hid hb5
          clear ho5 hb5
          go_wp2_with fail
          go_ret2
          refine ⟨v5, by rw [HF.out]; rfl, ?_, HB2.out.trans ((HB4.out.trans HB5.out).mono HB2.out.size)⟩
          rw [HF.out, ← qsqz_all]
          exact Own3.rebase HO5.out HB2.out.size
        · have b5 : decide (0 < (ps.length : Int)) = false := decide_eq_false (by omega)
          have b6 : decide (0 < ps.length) = false := decide_eq_false hz
          clear hz
          go_wp2_with fail
          have HQF := Lib.hid (qall_facts HOK.out x (0) ps.length (by omega) HL.out)
          have HQA : Hid (qall ps x = ps.take ps.length ++ (x, 1, 0) :: ps.drop ps.length) := qall_end HK.out hlow.out hup.out (.inr rfl)
          refine (clone_any A ps c _ ((HS.out.below HB2.out).more HB2.out.size) HOK.out.len).mono ?_
          rintro e w3 ⟨v3, rfl, ho3, hb3⟩
          have HO3 := Lib.hid ho3
          have HB3 := Lib.hid hb3
          clear ho3 hb3
          go_wp2_with fail
          refine (insert_any v3 ps ps.length (x, 1, 0) _ _ (w2).heap.size (HO3.out.alloc _) HK.out (by have := HL.out; omega) (Blk.new w3 _ _) (fun h => by have := (World.ownsRow.lt HO3.out _ h).2; omega) (by have := HB3.out.size; simp; omega)).mono ?_
          rintro e w4 ⟨v4, rfl, ho4, hb4⟩
          rw [← HQA.out] at ho4
          have HO4 := Lib.hid ho4
          have HB4 := Lib.hid (((HB3.out.alloc HB3.out.size _)).trans hb4)
          clear ho4 hb4
          have HQF2 := HQF
          rw [← HQA.out] at HQF2
          go_wp2_with fail
          refine (squeeze_any parts v4 (qall ps x) _ (w2).heap.size HO4.out HB4.out.size ⟨HOK.out.lo, HOK.out.hi⟩ HQF2.out.1 HQF2.out.2.1 HQF2.out.2.2).mono ?_
          rintro e w5 ⟨v5, rfl, ho5, hb5⟩
          have HO5 := Lib.hid ho5
          have HB5 := Lib.hid hb5
          clear ho5 hb5
          go_wp2_with fail
          go_ret2
          refine ⟨v5, by rw [HF.out]; rfl, ?_, HB2.out.trans ((HB4.out.trans HB5.out).mono HB2.out.size)⟩
          rw [HF.out, ← qsqz_all]
          exact Own3.rebase HO5.out HB2.out.size
      · clear hc
        subst he
        have i1 : (0 : Int) < (ps.length : Int) := by omega
        obtain ⟨ad, rfl, _, c0, _, _⟩ := HS.out.trip hlt
        have d0 := (HB2.out.cell (block_lt c0)).trans c0
        have hle := hup.out hlt
        obtain ⟨N, hN⟩ : ∃ N, N = (kat ps 0).1 := ⟨_, rfl⟩
        rw [← hN] at d0 hle
        have HN := Lib.hid hN
        have b4 : decide (N ≤ x) = false := decide_eq_false (by omega)
        clear c0 hN hle hk
        rw [show ad.add (0 * 3) = ad from rfl] at d0
        go_wp2_with fail
        have HQF := Lib.hid (qall_facts HOK.out x (0) 0 (by omega) HL.out)
        have HQA : Hid (qall ps x = ps.take 0 ++ (x, 1, 0) :: ps.drop 0) := qall_end HK.out hlow.out hup.out (.inl rfl)
        refine (clone_any (some ad) ps c _ ((HS.out.below HB2.out).more HB2.out.size) HOK.out.len).mono ?_
        rintro e w3 ⟨v3, rfl, ho3, hb3⟩
        have HO3 := Lib.hid ho3
        have HB3 := Lib.hid hb3
        clear ho3 hb3
        go_wp2_with fail
        refine (insert_any v3 ps 0 (x, 1, 0) _ _ (w2).heap.size (HO3.out.alloc _) HK.out (by have := HL.out; omega) (Blk.new w3 _ _) (fun h => by have := (World.ownsRow.lt HO3.out _ h).2; omega) (by have := HB3.out.size; simp; omega)).mono ?_
        rintro e w4 ⟨v4, rfl, ho4, hb4⟩
        rw [← HQA.out] at ho4
        have HO4 := Lib.hid ho4
        have HB4 := Lib.hid (((HB3.out.alloc HB3.out.size _)).trans hb4)
        clear ho4 hb4
        have HQF2 := HQF
        rw [← HQA.out] at HQF2
        go_wp2_with fail
        refine (squeeze_any parts v4 (qall ps x) _ (w2).heap.size HO4.out HB4.out.size ⟨HOK.out.lo, HOK.out.hi⟩ HQF2.out.1 HQF2.out.2.1 HQF2.out.2.2).mono ?_
        rintro e w5 ⟨v5, rfl, ho5, hb5⟩
        have HO5 := Lib.hid ho5
        have HB5 := Lib.hid hb5
        clear ho5 hb5
        go_wp2_with fail
        go_ret2
        refine ⟨v5, by rw [HF.out]; rfl, ?_, HB2.out.trans ((HB4.out.trans HB5.out).mono HB2.out.size)⟩
        rw [HF.out, ← qsqz_all]
        exact Own3.rebase HO5.out HB2.out.size
      · clear hc
        have i1 : (k : Int) < (ps.length : Int) := by omega
        have HK2 := Lib.hid hlt
        have HE := Lib.hid he
        obtain ⟨ad, rfl, _, c0, c1, c2⟩ := HS.out.trip hlt
        have d0 := (HB2.out.cell (block_lt c0)).trans c0
        have d1 := (HB2.out.cell (block_lt c1)).trans c1
        have d2 := (HB2.out.cell (block_lt c2)).trans c2
        have hle := hup.out hlt
        have hq1 := HOK.out.one k hlt
        unfold Q1 at hq1
        obtain ⟨N, hN⟩ : ∃ N, N = (kat ps k).1 := ⟨_, rfl⟩
        obtain ⟨a, ha⟩ : ∃ a, a = (kat ps k).2.1 := ⟨_, rfl⟩
        obtain ⟨d, hd⟩ : ∃ d, d = (kat ps k).2.2 := ⟨_, rfl⟩
        obtain ⟨m, hm⟩ : ∃ m, m = a + d - 1 := ⟨_, rfl⟩
        have HMM : Hid (m = (kat ps k).2.1 + (kat ps k).2.2 - 1) := by unfold Hid; rw [hm, ha, hd]
        rw [← hN] at d0 hle
        rw [← ha] at d1 hq1
        rw [← hd] at d2 hq1
        have HMb : Hid (0 ≤ m ∧ m ≤ 4398046511104) := by unfold Hid; omega
        have b4 : decide (N ≤ x) = false := decide_eq_false (by omega)
        have b5 : decide (0 < (k : Int)) = true := decide_eq_true (by omega)
        have b6 : decide (0 < k) = true := decide_eq_true he
        have g1 : IntKind.i64.wrap (a + d) = a + d := IntWalk.i64_in _ (by omega)
        have g2 : IntKind.i64.wrap (a + d - 1) = m := by rw [hm]; exact IntWalk.i64_in _ (by omega)
        clear c0 c1 c2 hN hle hk ha hd hq1 hm
        go_wp2_with fail
        go_quiet (fail)
        generalize hwz : w2.drewN _ = wz
        have HB2b : Hid (Below w.heap.size w wz) := by unfold Hid; rw [← hwz]; exact below_drewN HB2.out _
        clear hwz d0 d1 d2
        go_wp2_with fail
        have HQF := Lib.hid (qall_facts HOK.out x m k ⟨HMb.out.1, HMb.out.2⟩ HL.out)
        have HQA : Hid (qall ps x = ps.take k ++ (x, 1, m) :: ps.drop k) := (qall_mid HK2.out hlow.out hup.out HE.out).trans (by rw [HMM.out])
        refine (clone_any (some ad) ps c _ ((HS.out.below HB2b.out).more HB2b.out.size) HOK.out.len).mono ?_
        rintro e w3 ⟨v3, rfl, ho3, hb3⟩
        have HO3 := Lib.hid ho3
        have HB3 := Lib.hid hb3
        clear ho3 hb3
        go_wp2_with fail
        refine (insert_any v3 ps k (x, 1, m) _ _ wz.heap.size (HO3.out.alloc _) HK.out (by have := HL.out; omega) (Blk.new w3 _ _) (fun h => by have := (World.ownsRow.lt HO3.out _ h).2; omega) (by have := HB3.out.size; simp; omega)).mono ?_
        rintro e w4 ⟨v4, rfl, ho4, hb4⟩
        rw [← HQA.out] at ho4
        have HO4 := Lib.hid ho4
        have HB4 := Lib.hid (((HB3.out.alloc HB3.out.size _)).trans hb4)
        clear ho4 hb4
        have HQF2 := HQF
        rw [← HQA.out] at HQF2
        go_wp2_with fail
        refine (squeeze_any parts v4 (qall ps x) _ wz.heap.size HO4.out HB4.out.size ⟨HOK.out.lo, HOK.out.hi⟩ HQF2.out.1 HQF2.out.2.1 HQF2.out.2.2).mono ?_
        rintro e w5 ⟨v5, rfl, ho5, hb5⟩
        have HO5 := Lib.hid ho5
        have HB5 := Lib.hid hb5
        clear ho5 hb5
        go_wp2_with fail
        go_ret2
        refine ⟨v5, by rw [HF.out]; rfl, ?_, HB2b.out.trans ((HB4.out.trans HB5.out).mono HB2b.out.size)⟩
        rw [HF.out, ← qsqz_all]
        exact Own3.rebase HO5.out HB2b.out.size
theorem add_any (parts : Int) (A : Option Addr) (ps : List Rk) (c : Nat) (x : Int) (w : World) (hs : Seg w w.heap.size A (flat3 ps)) (hm : ps.length ≤ 9223372036854775807) :
    Calls Try.prog 82 #[.int .i64 parts, .slice A ps.length c, .int .i64 x] w (KOut w.heap.size (qaddR parts ps x) w) := by
  by_cases hq : QOk parts ps
  · by_cases hf : ps.length = 400 ∨ qsum ps = 1099511627776
    · exact add_full parts A ps c x w hs hm hq hf
    · exact add_good parts A ps c x w hs hm hq hf
  · exact add_bad parts A ps c x w hs hm hq
end Go.Proofs.Ytaehehoeidnidaa
