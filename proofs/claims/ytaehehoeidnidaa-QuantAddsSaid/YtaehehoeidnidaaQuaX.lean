/- Package quant: Find, walked. No condition but the list's own length. -/
import Derived.Test.YtaehehoeidnidaaQuaU
namespace Go.Proofs.Ytaehehoeidnidaa
open Go.ChangeShapes Go.WideShapes Go.ChangeAt Go.RowKit
set_option linter.unusedVariables false

theorem fin_new {ps : List Rk} {place b : Int} {k : Nat} {d : Int} (h : qbest ps place (k + 1) = k) (hN : b = (kat ps k).1) (hD : qdist ps place k = d) :
    Hid ((k + 1 = 0 → b = 0 ∧ d = -1) ∧ (0 < k + 1 → b = (kat ps (qbest ps place (k + 1))).1 ∧ d = qdist ps place (qbest ps place (k + 1)))) :=
  ⟨fun h => absurd h (by omega), fun _ => by rw [h]; exact ⟨hN, hD.symm⟩⟩
theorem fin_old {ps : List Rk} {place b f : Int} {k : Nat} (h : qbest ps place (k + 1) = qbest ps place k) (h2 : b = (kat ps (qbest ps place k)).1 ∧ f = qdist ps place (qbest ps place k)) :
    Hid ((k + 1 = 0 → b = 0 ∧ f = -1) ∧ (0 < k + 1 → b = (kat ps (qbest ps place (k + 1))).1 ∧ f = qdist ps place (qbest ps place (k + 1)))) :=
  ⟨fun h => absurd h (by omega), fun _ => by rw [h]; exact h2⟩
theorem qbest_0 (ps : List Rk) (place : Int) : qbest ps place 1 = 0 := by unfold qbest qbest; split <;> rfl
set_option maxRecDepth 20000 in
set_option maxHeartbeats 4000000 in
theorem find_no (parts : Int) (A : Option Addr) (ps : List Rk) (c : Nat) (place : Int) (w : World) (hs : Seg w w.heap.size A (flat3 ps)) (hm : ps.length ≤ 9223372036854775807) (hn : ¬ QOk parts ps ∨ (QOk parts ps ∧ place < 1) ∨ (QOk parts ps ∧ ¬ place < 1 ∧ qsum ps < place)) :
    Calls Try.prog 84 #[.int .i64 parts, .slice A ps.length c, .int .i64 place] w (FOut (qfindR parts ps place) w) := by
  have HS := Lib.hid hs
  have HM := Lib.hid hm
  clear hs hm
  rcases hn with h | ⟨h, h1⟩ | ⟨h, h1, h2⟩
  · have HQ := Lib.hid (qokF h)
    have HF : Hid (qfindR parts ps place = (0, 1)) := by unfold Hid qfindR; rw [if_pos (qokF h)]
    clear h
    go_enter Try.func84, Try.ntmps84
    go_wp2_with fail
    refine (right_any parts A ps c _ HS.out HM.out).mono ?_
    rintro e w1 ⟨rfl, hb⟩
    rw [HQ.out]
    have HB := Lib.hid hb
    clear hb
    go_wp2_with fail
    go_ret2
    exact ⟨by rw [HF.out]; rfl, HB.out⟩
  · have HQ := Lib.hid (qokT h)
    have HF : Hid (qfindR parts ps place = (0, 3)) := by unfold Hid qfindR; rw [if_neg (by rw [qokT h]; simp), if_pos (.inl h1)]
    have b1 : decide (place < 1) = true := decide_eq_true h1
    clear h h1
    go_enter Try.func84, Try.ntmps84
    go_wp2_with fail
    refine (right_any parts A ps c _ HS.out HM.out).mono ?_
    rintro e w1 ⟨rfl, hb⟩
    rw [HQ.out]
    have HB := Lib.hid hb
    clear hb
    go_wp2_with fail
    go_ret2
    exact ⟨by rw [HF.out]; rfl, HB.out⟩
  · have HQ := Lib.hid (qokT h)
    have HOK := Lib.hid h
    have HF : Hid (qfindR parts ps place = (0, 3)) := by unfold Hid qfindR; rw [if_neg (by rw [qokT h]; simp), if_pos (.inr h2)]
    have b1 : decide (place < 1) = false := decide_eq_false h1
    have b2 : decide (qsum ps < place) = true := decide_eq_true h2
    clear h h1 h2
    go_enter Try.func84, Try.ntmps84
    go_wp2_with fail
    refine (right_any parts A ps c _ HS.out HM.out).mono ?_
    rintro e w1 ⟨rfl, hb⟩
    rw [HQ.out]
    have HB := Lib.hid hb
    clear hb
    go_wp2_with fail
    refine (count_any A ps c _ ((HS.out.below HB.out).more HB.out.size) HOK.out.len HOK.out.one).mono ?_
    rintro e w2 ⟨rfl, hb⟩
    have HB2 := Lib.hid (HB.out.trans (hb.mono HB.out.size))
    clear hb
    go_wp2_with fail
    go_ret2
    exact ⟨by rw [HF.out]; rfl, HB2.out⟩
set_option maxRecDepth 20000 in
set_option maxHeartbeats 4000000 in
theorem find_yes (parts : Int) (A : Option Addr) (ps : List Rk) (c : Nat) (place : Int) (w : World) (hs : Seg w w.heap.size A (flat3 ps)) (hm : ps.length ≤ 9223372036854775807) (hq : QOk parts ps) (h1 : ¬ place < 1) (h2 : ¬ qsum ps < place) :
    Calls Try.prog 84 #[.int .i64 parts, .slice A ps.length c, .int .i64 place] w (FOut (qfindR parts ps place) w) := by
  have HS := Lib.hid hs
  have HM := Lib.hid hm
  have HQ := Lib.hid (qokT hq)
  have HOK := Lib.hid hq
  have HF : Hid (qfindR parts ps place = ((kat ps (qbest ps place ps.length)).1, 0)) := by unfold Hid qfindR; rw [if_neg (by rw [qokT hq]; simp), if_neg (by omega)]
  have hall := hq.all
  have HPl : Hid (1 ≤ place ∧ place ≤ 1099511627776) := by unfold Hid; omega
  have HL : Hid (ps.length ≤ 400) := hq.len
  have HLp : Hid (0 < ps.length) := by
    unfold Hid
    cases ps with
    | nil => simp [qsum] at h2; omega
    | cons _ _ => simp
  have b1 : decide (place < 1) = false := decide_eq_false h1
  have b2 : decide (qsum ps < place) = false := decide_eq_false h2
  clear hs hm hq h1 h2 hall
  go_enter Try.func84, Try.ntmps84
  go_wp2_with fail
  refine (right_any parts A ps c _ HS.out HM.out).mono ?_
  rintro e w1 ⟨rfl, hb⟩
  rw [HQ.out]
  have HB := Lib.hid hb
  clear hb
  go_wp2_with fail
  refine (count_any A ps c _ ((HS.out.below HB.out).more HB.out.size) HOK.out.len HOK.out.one).mono ?_
  rintro e w2 ⟨rfl, hb⟩
  have HB2 := Lib.hid (HB.out.trans (hb.mono HB.out.size))
  clear hb
  go_wp2_with fail
  clear b1 b2
  go_loopw [8, 9, 10, 30] (fun s8 s9 s10 s30 wx => ∃ (k : Nat) (b f : Int), k ≤ ps.length ∧ s8 = .int .i64 b ∧ s9 = .int .i64 f ∧ s10 = .int .i64 (qsum (ps.take k)) ∧ s30 = .int .i64 k ∧ Hid ((k = 0 → b = 0 ∧ f = -1) ∧ (0 < k → b = (kat ps (qbest ps place k)).1 ∧ f = qdist ps place (qbest ps place k))) ∧ Hid (Below w.heap.size w wx)) (fun _ _ _ s30 _ => ps.length - (intOf s30).toNat)
  case atStart => exact ⟨0, 0, -1, Nat.zero_le _, rfl, rfl, rfl, rfl, ⟨fun _ => ⟨rfl, rfl⟩, fun h => absurd h (by omega)⟩, HB2.out⟩
  case round =>
    obtain ⟨k, b, f, hk, rfl, rfl, rfl, rfl, hr, hb⟩ := hrel
    have HR := hr
    by_cases hlt : k < ps.length
    · have i1 : (k : Int) < (ps.length : Int) := by omega
      obtain ⟨ad, rfl, _, c0, c1, c2⟩ := HS.out.trip hlt
      have d0 := (hb.out.cell (block_lt c0)).trans c0
      have d1 := (hb.out.cell (block_lt c1)).trans c1
      have d2 := (hb.out.cell (block_lt c2)).trans c2
      have hsn := qsum_take hlt
      have hpre := HOK.out.pre (show k + 1 ≤ ps.length by omega)
      have hq1 := HOK.out.one k hlt
      unfold Q1 at hq1
      have HB1 : Hid (f < 0 → qbest ps place (k + 1) = k) := fun hf => by
        rcases Nat.eq_zero_or_pos k with h0 | h0
        · subst h0; exact qbest_0 ps place
        · have h3 := (hr.out.2 h0).2
          have := qdist_nn HOK.out place (show qbest ps place k < ps.length by have := qbest_lt ps place k h0; omega)
          omega
      have HF0 : Hid (¬ f < 0 → 0 < k) := fun hf => by
        rcases Nat.eq_zero_or_pos k with h0 | h0
        · have := (hr.out.1 h0).2; omega
        · exact h0
      have HB2 : Hid (¬ f < 0 → qdist ps place k < f → qbest ps place (k + 1) = k) := fun hf hd => by
        have h3 := (hr.out.2 (HF0.out hf)).2
        rw [h3] at hd
        show (if _ then _ else _) = _
        rw [if_pos hd]
      have HB3 : Hid (¬ f < 0 → ¬ qdist ps place k < f → qbest ps place (k + 1) = qbest ps place k) := fun hf hd => by
        have h3 := (hr.out.2 (HF0.out hf)).2
        rw [h3] at hd
        show (if _ then _ else _) = _
        rw [if_neg hd]
      have hqd : qdist ps place k = max (place - qsum (ps.take (k + 1))) (qsum (ps.take (k + 1)) + (kat ps k).2.2 - place) := rfl
      obtain ⟨g, hg⟩ : ∃ g, g = (kat ps k).2.1 := ⟨_, rfl⟩
      obtain ⟨m, hm⟩ : ∃ m, m = (kat ps k).2.2 := ⟨_, rfl⟩
      obtain ⟨N, hN⟩ : ∃ N, N = (kat ps k).1 := ⟨_, rfl⟩
      obtain ⟨V, hV⟩ : ∃ V, V = qsum (ps.take (k + 1)) := ⟨_, rfl⟩
      rw [← hN] at d0
      rw [← hg] at d1 hsn hq1
      rw [← hm] at d2 hq1 hqd
      rw [← hV] at hsn hpre hqd
      have HN := Lib.hid hN
      have HV := Lib.hid hV
      have HQD := Lib.hid hqd
      have HPL := HPl.out
      obtain ⟨v1, v2⟩ : 0 ≤ V ∧ V ≤ 1099511627776 := by clear hqd; omega
      obtain ⟨v3, v4⟩ : 0 ≤ m ∧ m ≤ 1099511627776 := by clear hqd; omega
      obtain ⟨v5, v6⟩ := HPL
      have g2 : qsum (ps.take k) + g = V := hsn.symm
      have g3 : wrap64 V = V := qw64 (by omega) (by omega)
      have uk : Hid (wrap64 ((k : Int) + 1) = ((k + 1 : Nat) : Int)) := qk64 (by have := HL.out; omega)
      have HKL : Hid (k + 1 ≤ ps.length) := hlt
      have HME : Hid (ps.length - (intOf (.int .i64 ((k + 1 : Nat) : Int))).toNat < ps.length - (intOf (.int .i64 (k : Int))).toNat) := by unfold Hid; simp [intOf]; omega
      clear hr c0 c1 c2 hsn hpre hq1 hqd hg hm hN hV hk hlt
      by_cases hxy : place - V < V + m - place
      · have HD : Hid (qdist ps place k = V + m - place) := by unfold Hid; rw [HQD.out]; omega
        by_cases hf : f < 0
        · have b1 : decide (f < 0) = true := decide_eq_true hf
          have HE : Hid (qbest ps place (k + 1) = k) := HB1.out hf
          clear hf
          go_wp2_with fail
          go_roundw
          case rel => exact ⟨k + 1, _, _, HKL.out, rfl, rfl, by first | rfl | rw [HV.out], by first | rfl | rw [uk.out], fin_new HE.out HN.out HD.out, hb.out.alloc hb.out.size _⟩
          case measure => (try rw [uk.out]); exact HME.out
        · by_cases hl : V + m - place < f
          · have b1 : decide (f < 0) = false := decide_eq_false hf
            have b2 : decide (V + m - place < f) = true := decide_eq_true hl
            have HE : Hid (qbest ps place (k + 1) = k) := HB2.out hf (by rw [HD.out]; exact hl)
            clear hf hl
            go_wp2_with fail
            go_roundw
            case rel => exact ⟨k + 1, _, _, HKL.out, rfl, rfl, by first | rfl | rw [HV.out], by first | rfl | rw [uk.out], fin_new HE.out HN.out HD.out, hb.out.alloc hb.out.size _⟩
            case measure => (try rw [uk.out]); exact HME.out
          · have b1 : decide (f < 0) = false := decide_eq_false hf
            have b2 : decide (V + m - place < f) = false := decide_eq_false hl
            have HE : Hid (qbest ps place (k + 1) = qbest ps place k) := HB3.out hf (by rw [HD.out]; exact hl)
            have HK0 : Hid (0 < k) := HF0.out hf
            clear hf hl
            go_wp2_with fail
            go_roundw
            case rel => exact ⟨k + 1, _, _, HKL.out, rfl, rfl, by first | rfl | rw [HV.out], by first | rfl | rw [uk.out], fin_old HE.out (HR.out.2 HK0.out), hb.out.alloc hb.out.size _⟩
            case measure => (try rw [uk.out]); exact HME.out
      · have HD : Hid (qdist ps place k = place - V) := by unfold Hid; rw [HQD.out]; omega
        by_cases hf : f < 0
        · have b1 : decide (f < 0) = true := decide_eq_true hf
          have HE : Hid (qbest ps place (k + 1) = k) := HB1.out hf
          clear hf
          go_wp2_with fail
          go_roundw
          case rel => exact ⟨k + 1, _, _, HKL.out, rfl, rfl, by first | rfl | rw [HV.out], by first | rfl | rw [uk.out], fin_new HE.out HN.out HD.out, hb.out.alloc hb.out.size _⟩
          case measure => (try rw [uk.out]); exact HME.out
        · by_cases hl : place - V < f
          · have b1 : decide (f < 0) = false := decide_eq_false hf
            have b2 : decide (place - V < f) = true := decide_eq_true hl
            have HE : Hid (qbest ps place (k + 1) = k) := HB2.out hf (by rw [HD.out]; exact hl)
            clear hf hl
            go_wp2_with fail
            go_roundw
            case rel => exact ⟨k + 1, _, _, HKL.out, rfl, rfl, by first | rfl | rw [HV.out], by first | rfl | rw [uk.out], fin_new HE.out HN.out HD.out, hb.out.alloc hb.out.size _⟩
            case measure => (try rw [uk.out]); exact HME.out
          · have b1 : decide (f < 0) = false := decide_eq_false hf
            have b2 : decide (place - V < f) = false := decide_eq_false hl
            have HE : Hid (qbest ps place (k + 1) = qbest ps place k) := HB3.out hf (by rw [HD.out]; exact hl)
            have HK0 : Hid (0 < k) := HF0.out hf
            clear hf hl
            go_wp2_with fail
            go_roundw
            case rel => exact ⟨k + 1, _, _, HKL.out, rfl, rfl, by first | rfl | rw [HV.out], by first | rfl | rw [uk.out], fin_old HE.out (HR.out.2 HK0.out), hb.out.alloc hb.out.size _⟩
            case measure => (try rw [uk.out]); exact HME.out
    · obtain rfl : k = ps.length := by omega
      have HEB : Hid (b = (kat ps (qbest ps place ps.length)).1) := (hr.out.2 HLp.out).1
      go_wp2_with fail
      go_ret2
      exact ⟨by rw [HF.out, HEB.out]; rfl, hb.out⟩
theorem find_any (parts : Int) (A : Option Addr) (ps : List Rk) (c : Nat) (place : Int) (w : World) (hs : Seg w w.heap.size A (flat3 ps)) (hm : ps.length ≤ 9223372036854775807) :
    Calls Try.prog 84 #[.int .i64 parts, .slice A ps.length c, .int .i64 place] w (FOut (qfindR parts ps place) w) := by
  by_cases hq : QOk parts ps
  · by_cases h1 : place < 1
    · exact find_no parts A ps c place w hs hm (.inr (.inl ⟨hq, h1⟩))
    · by_cases h2 : qsum ps < place
      · exact find_no parts A ps c place w hs hm (.inr (.inr ⟨hq, h1, h2⟩))
      · exact find_yes parts A ps c place w hs hm hq h1 h2
  · exact find_no parts A ps c place w hs hm (.inl hq)
end Go.Proofs.Ytaehehoeidnidaa
