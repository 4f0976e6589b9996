/- The reference: ORight, walked. No condition but the list's own length. -/
import Derived.Test.YtaehehoeidnidaaQuaR
namespace Go.Proofs.Ytaehehoeidnidaa
open Go.ChangeShapes Go.WideShapes Go.ChangeAt Go.RowKit
set_option linter.unusedVariables false

set_option maxRecDepth 20000 in
set_option maxHeartbeats 4000000 in
theorem oright_bad (parts : Int) (A : Option Addr) (ps : List Rk) (c : Nat) (w : World) (hs : Seg w w.heap.size A (flat3 ps)) (hm : ps.length ≤ 9223372036854775807)
    (hbad : parts < 1 ∨ (¬ parts < 1 ∧ 100 < parts) ∨ (¬ parts < 1 ∧ ¬ 100 < parts ∧ (400 : Int) < (ps.length : Int))) :
    Calls Try.prog 88 #[.int .i64 parts, .slice A ps.length c] w fun e w' => e = .returned (.bool (qokB parts ps)) ∧ Below w.heap.size w w' := by
  have HS := Lib.hid hs
  have HM := Lib.hid hm
  have HF : Hid (¬ QOk parts ps) := fun q => by have := q.lo; have := q.hi; have := q.len; omega
  clear hs hm
  rcases hbad with h | ⟨h, h'⟩ | ⟨h, h', h2⟩
  · have b1 : decide (0 < parts) = false := decide_eq_false (by omega); clear h
    go_enter Try.func88, Try.ntmps88
    go_wp2_with fail
    go_loopw [5, 25] (fun s5 s25 wx => ∃ (k : Nat), k ≤ ps.length ∧ s5 = .bool false ∧ s25 = .int .i64 k ∧ Hid (Below w.heap.size w wx)) (fun _ s25 _ => ps.length - (intOf s25).toNat)
    case atStart => exact ⟨0, Nat.zero_le _, rfl, rfl, Below.refl _ _⟩
    case round =>
      obtain ⟨k, hk, rfl, rfl, hb⟩ := hrel
      by_cases hlt : k < ps.length
      · have i1 : (k : Int) < (ps.length : Int) := by omega
        obtain ⟨ad, rfl, _, c0, c1, c2⟩ := HS.out.trip hlt
        have d0 := (hb.out.cell (block_lt c0)).trans c0
        have d1 := (hb.out.cell (block_lt c1)).trans c1
        have d2 := (hb.out.cell (block_lt c2)).trans c2
        have uk : Hid (wrap64 ((k : Int) + 1) = ((k + 1 : Nat) : Int)) := qk64 (by have := HM.out; omega)
        have HK := Lib.hid (And.intro hk hlt)
        clear c0 c1 c2 hk hlt
        go_wp2_with fail
        go_quiet (fail)
        go_wp2_with fail
        go_roundw
        case rel => exact ⟨k + 1, by have := HK.out; omega, rfl, by first | rfl | rw [uk.out], below_drewN (hb.out.alloc hb.out.size _) _⟩
        case measure => (try rw [uk.out]); have := HK.out; simp [intOf]; omega
      · obtain rfl : k = ps.length := by omega
        go_wp2_with fail
        go_ret
        exact ⟨by rw [qokF HF.out]; rfl, hb.out⟩
  · have b1 : decide (0 < parts) = true := decide_eq_true (by omega); have b2 : decide (parts ≤ 100) = false := decide_eq_false (by omega); clear h h'
    go_enter Try.func88, Try.ntmps88
    go_wp2_with fail
    go_loopw [5, 25] (fun s5 s25 wx => ∃ (k : Nat), k ≤ ps.length ∧ s5 = .bool false ∧ s25 = .int .i64 k ∧ Hid (Below w.heap.size w wx)) (fun _ s25 _ => ps.length - (intOf s25).toNat)
    case atStart => exact ⟨0, Nat.zero_le _, rfl, rfl, Below.refl _ _⟩
    case round =>
      obtain ⟨k, hk, rfl, rfl, hb⟩ := hrel
      by_cases hlt : k < ps.length
      · have i1 : (k : Int) < (ps.length : Int) := by omega
        obtain ⟨ad, rfl, _, c0, c1, c2⟩ := HS.out.trip hlt
        have d0 := (hb.out.cell (block_lt c0)).trans c0
        have d1 := (hb.out.cell (block_lt c1)).trans c1
        have d2 := (hb.out.cell (block_lt c2)).trans c2
        have uk : Hid (wrap64 ((k : Int) + 1) = ((k + 1 : Nat) : Int)) := qk64 (by have := HM.out; omega)
        have HK := Lib.hid (And.intro hk hlt)
        clear c0 c1 c2 hk hlt
        go_wp2_with fail
        go_quiet (fail)
        go_wp2_with fail
        go_roundw
        case rel => exact ⟨k + 1, by have := HK.out; omega, rfl, by first | rfl | rw [uk.out], below_drewN (hb.out.alloc hb.out.size _) _⟩
        case measure => (try rw [uk.out]); have := HK.out; simp [intOf]; omega
      · obtain rfl : k = ps.length := by omega
        go_wp2_with fail
        go_ret
        exact ⟨by rw [qokF HF.out]; rfl, hb.out⟩
  · have b1 : decide (0 < parts) = true := decide_eq_true (by omega); have b2 : decide (parts ≤ 100) = true := decide_eq_true (by omega); have b3 : decide ((ps.length : Int) ≤ 400) = false := decide_eq_false (by omega); have b4 : decide (ps.length ≤ 400) = false := decide_eq_false (by omega); clear h h' h2
    go_enter Try.func88, Try.ntmps88
    go_wp2_with fail
    go_loopw [5, 25] (fun s5 s25 wx => ∃ (k : Nat), k ≤ ps.length ∧ s5 = .bool false ∧ s25 = .int .i64 k ∧ Hid (Below w.heap.size w wx)) (fun _ s25 _ => ps.length - (intOf s25).toNat)
    case atStart => exact ⟨0, Nat.zero_le _, rfl, rfl, Below.refl _ _⟩
    case round =>
      obtain ⟨k, hk, rfl, rfl, hb⟩ := hrel
      by_cases hlt : k < ps.length
      · have i1 : (k : Int) < (ps.length : Int) := by omega
        obtain ⟨ad, rfl, _, c0, c1, c2⟩ := HS.out.trip hlt
        have d0 := (hb.out.cell (block_lt c0)).trans c0
        have d1 := (hb.out.cell (block_lt c1)).trans c1
        have d2 := (hb.out.cell (block_lt c2)).trans c2
        have uk : Hid (wrap64 ((k : Int) + 1) = ((k + 1 : Nat) : Int)) := qk64 (by have := HM.out; omega)
        have HK := Lib.hid (And.intro hk hlt)
        clear c0 c1 c2 hk hlt
        go_wp2_with fail
        go_quiet (fail)
        go_wp2_with fail
        go_roundw
        case rel => exact ⟨k + 1, by have := HK.out; omega, rfl, by first | rfl | rw [uk.out], below_drewN (hb.out.alloc hb.out.size _) _⟩
        case measure => (try rw [uk.out]); have := HK.out; simp [intOf]; omega
      · obtain rfl : k = ps.length := by omega
        go_wp2_with fail
        go_ret
        exact ⟨by rw [qokF HF.out]; rfl, hb.out⟩
set_option maxRecDepth 20000 in
set_option maxHeartbeats 8000000 in
theorem oright_any (parts : Int) (A : Option Addr) (ps : List Rk) (c : Nat) (w : World) (hs : Seg w w.heap.size A (flat3 ps)) (hm : ps.length ≤ 9223372036854775807) :
    Calls Try.prog 88 #[.int .i64 parts, .slice A ps.length c] w fun e w' => e = .returned (.bool (qokB parts ps)) ∧ Below w.heap.size w w' := by
  by_cases hbad : parts < 1 ∨ (¬ parts < 1 ∧ 100 < parts) ∨ (¬ parts < 1 ∧ ¬ 100 < parts ∧ (400 : Int) < (ps.length : Int))
  · exact oright_bad parts A ps c w hs hm hbad
  have HL : Hid (1 ≤ parts ∧ parts ≤ 100 ∧ ps.length ≤ 400) := by unfold Hid; omega
  have HS := Lib.hid hs
  clear hs hm
  have b1 : decide (0 < parts) = true := decide_eq_true (by omega)
  have b2 : decide (parts ≤ 100) = true := decide_eq_true (by omega)
  have b3 : decide ((ps.length : Int) ≤ 400) = true := decide_eq_true (by omega)
  have b4 : decide (ps.length ≤ 400) = true := decide_eq_true (by omega)
  clear hbad
  go_enter Try.func88, Try.ntmps88
  go_wp2_with fail
  clear b1 b2 b3 b4
  go_loopw [5, 6, 25] (fun s5 s6 s25 wx => ∃ (k : Nat) (b : Bool) (T : Int), k ≤ ps.length ∧ s5 = .bool b ∧ s6 = .int .i64 T ∧ s25 = .int .i64 k ∧ Hid (b = true → (∀ i, i < k → Q1 ps i) ∧ T = qsum (ps.take k) ∧ 0 ≤ T ∧ T ≤ 1099511627776 * k) ∧ Hid (b = false → ¬ QOk parts ps) ∧ Hid (Below w.heap.size w wx)) (fun _ _ s25 _ => ps.length - (intOf s25).toNat)
  case atStart => exact ⟨0, true, 0, Nat.zero_le _, rfl, rfl, rfl, fun _ => ⟨fun i h => absurd h (Nat.not_lt_zero _), by simp [qsum], by simp, by simp⟩, (fun h => by cases h), Below.refl _ _⟩
  case round =>
    obtain ⟨k, b, T, hk, rfl, rfl, rfl, hgood, hbadk, hb⟩ := hrel
    by_cases hlt : k < ps.length
    · have i1 : (k : Int) < (ps.length : Int) := by omega
      obtain ⟨ad, rfl, _, c0, c1, c2⟩ := HS.out.trip hlt
      have d0 := (hb.out.cell (block_lt c0)).trans c0
      have d1 := (hb.out.cell (block_lt c1)).trans c1
      have d2 := (hb.out.cell (block_lt c2)).trans c2
      have hsn := qsum_take hlt
      have hqa : Hid (QOk parts ps → Q1 ps k ∧ qsum (ps.take (k + 1)) ≤ 1099511627776) := fun q => ⟨q.one k hlt, Int.le_trans (qsum_mono q.one (by omega)) q.all⟩
      obtain ⟨g, hg⟩ : ∃ g, g = (kat ps k).2.1 := ⟨_, rfl⟩
      obtain ⟨m, hm⟩ : ∃ m, m = (kat ps k).2.2 := ⟨_, rfl⟩
      obtain ⟨N, hN⟩ : ∃ N, N = (kat ps k).1 := ⟨_, rfl⟩
      rw [← hN] at d0
      rw [← hg] at d1 hsn
      rw [← hm] at d2
      have hlt2 := HL.out.2.2
      have uk : Hid (wrap64 ((k : Int) + 1) = ((k + 1 : Nat) : Int)) := qk64 (by omega)
      have HK := Lib.hid (And.intro hk hlt)
      have hq1 : Q1 ps k ↔ (1 ≤ g ∧ g ≤ 1099511627776 ∧ 0 ≤ m ∧ m ≤ 1099511627776 ∧ (0 < k → (kat ps (k - 1)).1 ≤ N)) := by unfold Q1; rw [hg, hm, hN]
      clear c0 c1 c2 hk hlt hlt2
      cases b with
      | false =>
        have HF : Hid (¬ QOk parts ps) := hbadk.out rfl
        clear hq1 hqa hsn hg hm hN HL
        go_wp2_with fail
        go_quiet (fail)
        go_wp2_with fail
        go_roundw
        case rel => exact ⟨k + 1, false, T, by have := HK.out; omega, rfl, rfl, by first | rfl | rw [uk.out], (fun h => by cases h), fun _ => HF.out, below_drewN (hb.out.alloc hb.out.size _) _⟩
        case measure => (try rw [uk.out]); have := HK.out; simp [intOf]; omega
      | true =>
        rcases q_cases g m N (kat ps (k - 1)).1 k with (h | ⟨h, h'⟩ | ⟨h, h', h2⟩ | ⟨h, h', h2, h3⟩ | ⟨h, h', h2, h3, h4, h5⟩) | ⟨h, h', h2, h3, h4⟩ | ⟨h, h', h2, h3, h4, h5⟩
        · have HF : Hid (¬ QOk parts ps) := fun q => by have := hq1.1 (hqa.out q).1; clear hsn; omega
          clear hq1 hqa hsn hg hm hN HL
          have b1 : decide (0 < g) = false := decide_eq_false (by omega)
          clear h
          go_wp2_with fail
          go_quiet (fail)
          go_wp2_with fail
          go_roundw
          case rel => exact ⟨k + 1, false, T, by have := HK.out; omega, rfl, rfl, by first | rfl | rw [uk.out], (fun h => by cases h), fun _ => HF.out, below_drewN (hb.out.alloc hb.out.size _) _⟩
          case measure => (try rw [uk.out]); have := HK.out; simp [intOf]; omega
        · have HF : Hid (¬ QOk parts ps) := fun q => by have := hq1.1 (hqa.out q).1; clear hsn; omega
          clear hq1 hqa hsn hg hm hN HL
          have b1 : decide (0 < g) = true := decide_eq_true (by omega); have b2 : decide (g ≤ 1099511627776) = false := decide_eq_false (by omega)
          clear h h'
          go_wp2_with fail
          go_quiet (fail)
          go_wp2_with fail
          go_roundw
          case rel => exact ⟨k + 1, false, T, by have := HK.out; omega, rfl, rfl, by first | rfl | rw [uk.out], (fun h => by cases h), fun _ => HF.out, below_drewN (hb.out.alloc hb.out.size _) _⟩
          case measure => (try rw [uk.out]); have := HK.out; simp [intOf]; omega
        · have HF : Hid (¬ QOk parts ps) := fun q => by have := hq1.1 (hqa.out q).1; clear hsn; omega
          clear hq1 hqa hsn hg hm hN HL
          have b1 : decide (0 < g) = true := decide_eq_true (by omega); have b2 : decide (g ≤ 1099511627776) = true := decide_eq_true (by omega); have b3 : decide (0 ≤ m) = false := decide_eq_false (by omega)
          clear h h' h2
          go_wp2_with fail
          go_quiet (fail)
          go_wp2_with fail
          go_roundw
          case rel => exact ⟨k + 1, false, T, by have := HK.out; omega, rfl, rfl, by first | rfl | rw [uk.out], (fun h => by cases h), fun _ => HF.out, below_drewN (hb.out.alloc hb.out.size _) _⟩
          case measure => (try rw [uk.out]); have := HK.out; simp [intOf]; omega
        · have HF : Hid (¬ QOk parts ps) := fun q => by have := hq1.1 (hqa.out q).1; clear hsn; omega
          clear hq1 hqa hsn hg hm hN HL
          have b1 : decide (0 < g) = true := decide_eq_true (by omega); have b2 : decide (g ≤ 1099511627776) = true := decide_eq_true (by omega); have b3 : decide (0 ≤ m) = true := decide_eq_true (by omega); have b4 : decide (m ≤ 1099511627776) = false := decide_eq_false (by omega)
          clear h h' h2 h3
          go_wp2_with fail
          go_quiet (fail)
          go_wp2_with fail
          go_roundw
          case rel => exact ⟨k + 1, false, T, by have := HK.out; omega, rfl, rfl, by first | rfl | rw [uk.out], (fun h => by cases h), fun _ => HF.out, below_drewN (hb.out.alloc hb.out.size _) _⟩
          case measure => (try rw [uk.out]); have := HK.out; simp [intOf]; omega
        · have HF : Hid (¬ QOk parts ps) := fun q => by have := hq1.1 (hqa.out q).1; clear hsn; omega
          obtain ⟨J, hJ⟩ : ∃ J : Nat, J = k - 1 := ⟨_, rfl⟩
          skip
          rw [← hJ] at h5
          obtain ⟨ae, e9, _, p0, _, _⟩ := HS.out.trip (show J < ps.length by have := HK.out; omega)
          injection e9 with e9
          subst e9
          have p1 := (hb.out.cell (block_lt p0)).trans p0
          obtain ⟨M, hM⟩ : ∃ M, M = (kat ps J).1 := ⟨_, rfl⟩
          rw [← hM] at p1 h5
          have b1 : decide (0 < g) = true := decide_eq_true (by omega); have b2 : decide (g ≤ 1099511627776) = true := decide_eq_true (by omega); have b3 : decide (0 ≤ m) = true := decide_eq_true (by omega); have b4 : decide (m ≤ 1099511627776) = true := decide_eq_true (by omega)
          have b5 : ((k : Int) == 0) = false := by simp; omega
          have b5' : (k == 0) = false := by simp; omega
          have b5'' : 0 < k := by omega
          have b6 : decide (M ≤ N) = false := decide_eq_false (by omega)
          have p2 : ∀ o, (wr.alloc o).cell? (ad.add (J * 3)) = some (.int .i64 M) := fun o => (World.cell?_alloc_lt wr o _ (block_lt p1)).trans p1
          have i2 : (J : Int) < (ps.length : Int) := by have := HK.out; omega
          have m1 : IntKind.i64.wrap ((k : Int) - 1) = (J : Int) := by rw [show (k : Int) - 1 = (J : Int) by omega]; exact IntWalk.i64_in _ (by have := HK.out; have := HL.out; omega)
          clear p0 hM hJ h5
          clear hq1 hqa hsn hg hm hN HL h h' h2 h3 h4
          go_wp2_with fail
          go_quiet (fail)
          go_wp2_with fail
          go_roundw
          case rel => exact ⟨k + 1, false, T, by have := HK.out; omega, rfl, rfl, by first | rfl | rw [uk.out], (fun h => by cases h), fun _ => HF.out, below_drewN (hb.out.alloc hb.out.size _) _⟩
          case measure => (try rw [uk.out]); have := HK.out; simp [intOf]; omega
        · have HQ1 : Hid (Q1 ps k) := hq1.2 ⟨by omega, by omega, by omega, by omega, fun h => by omega⟩
          have b1 : decide (0 < g) = true := decide_eq_true (by omega); have b2 : decide (g ≤ 1099511627776) = true := decide_eq_true (by omega); have b3 : decide (0 ≤ m) = true := decide_eq_true (by omega); have b4 : decide (m ≤ 1099511627776) = true := decide_eq_true (by omega)
          have b5 : ((k : Int) == 0) = true := by simp; omega
          have b5' : (k == 0) = true := by simp; omega
          obtain ⟨V, hV⟩ : ∃ V, V = qsum (ps.take (k + 1)) := ⟨_, rfl⟩
          rw [← hV] at hsn
          have HT := (hgood.out (by trivial))
          rw [← HT.2.1] at hsn
          have HVb : Hid (0 ≤ V ∧ V ≤ 1099511627776 * (k + 1)) := by have := HT.2.2; clear hq1 hqa; unfold Hid; omega
          have HTQ := Lib.hid HT.1
          have HV := Lib.hid hV
          have HKL : Hid (k ≤ 400) := by have := HK.out; have := HL.out; unfold Hid; omega
          clear HT
          have g2 : T + g = V := hsn.symm
          have g3 : wrap64 V = V := by have := HVb.out; have := HKL.out; exact qw64 (by omega) (by omega)
          clear hq1 hqa hsn hg hm hN HL h h' h2 h3 h4 hV
          go_wp2_with fail
          go_quiet (fail)
          go_wp2_with fail
          go_roundw
          case rel =>
            have := HK.out
            refine ⟨k + 1, true, V, by omega, rfl, by first | rfl | rw [g3], by first | rfl | rw [uk.out], fun _ => ⟨fun i hi => ?_, HV.out, by have := HVb.out; omega⟩, (fun h => by cases h), below_drewN (hb.out.alloc hb.out.size _) _⟩
            rcases (by omega : i < k ∨ i = k) with hi | rfl
            · exact HTQ.out i hi
            · exact HQ1.out
          case measure => (try rw [uk.out]); have := HK.out; simp [intOf]; omega
        · obtain ⟨J, hJ⟩ : ∃ J : Nat, J = k - 1 := ⟨_, rfl⟩
          have HQ1 : Hid (Q1 ps k) := hq1.2 ⟨by omega, by omega, by omega, by omega, fun h => by omega⟩
          rw [← hJ] at h5
          obtain ⟨ae, e9, _, p0, _, _⟩ := HS.out.trip (show J < ps.length by have := HK.out; omega)
          injection e9 with e9
          subst e9
          have p1 := (hb.out.cell (block_lt p0)).trans p0
          obtain ⟨M, hM⟩ : ∃ M, M = (kat ps J).1 := ⟨_, rfl⟩
          rw [← hM] at p1 h5
          have b1 : decide (0 < g) = true := decide_eq_true (by omega); have b2 : decide (g ≤ 1099511627776) = true := decide_eq_true (by omega); have b3 : decide (0 ≤ m) = true := decide_eq_true (by omega); have b4 : decide (m ≤ 1099511627776) = true := decide_eq_true (by omega)
          have b5 : ((k : Int) == 0) = false := by simp; omega
          have b5' : (k == 0) = false := by simp; omega
          have b5'' : 0 < k := by omega
          have b6 : decide (M ≤ N) = true := decide_eq_true (by omega)
          have p2 : ∀ o, (wr.alloc o).cell? (ad.add (J * 3)) = some (.int .i64 M) := fun o => (World.cell?_alloc_lt wr o _ (block_lt p1)).trans p1
          have i2 : (J : Int) < (ps.length : Int) := by have := HK.out; omega
          have m1 : IntKind.i64.wrap ((k : Int) - 1) = (J : Int) := by rw [show (k : Int) - 1 = (J : Int) by omega]; exact IntWalk.i64_in _ (by have := HK.out; have := HL.out; omega)
          clear p0 hM hJ h5
          obtain ⟨V, hV⟩ : ∃ V, V = qsum (ps.take (k + 1)) := ⟨_, rfl⟩
          rw [← hV] at hsn
          have HT := (hgood.out (by trivial))
          rw [← HT.2.1] at hsn
          have HVb : Hid (0 ≤ V ∧ V ≤ 1099511627776 * (k + 1)) := by have := HT.2.2; clear hq1 hqa; unfold Hid; omega
          have HTQ := Lib.hid HT.1
          have HV := Lib.hid hV
          have HKL : Hid (k ≤ 400) := by have := HK.out; have := HL.out; unfold Hid; omega
          clear HT
          have g2 : T + g = V := hsn.symm
          have g3 : wrap64 V = V := by have := HVb.out; have := HKL.out; exact qw64 (by omega) (by omega)
          clear hq1 hqa hsn hg hm hN HL h h' h2 h3 h4 hV
          go_wp2_with fail
          go_quiet (fail)
          go_wp2_with fail
          go_roundw
          case rel =>
            have := HK.out
            refine ⟨k + 1, true, V, by omega, rfl, by first | rfl | rw [g3], by first | rfl | rw [uk.out], fun _ => ⟨fun i hi => ?_, HV.out, by have := HVb.out; omega⟩, (fun h => by cases h), below_drewN (hb.out.alloc hb.out.size _) _⟩
            rcases (by omega : i < k ∨ i = k) with hi | rfl
            · exact HTQ.out i hi
            · exact HQ1.out
          case measure => (try rw [uk.out]); have := HK.out; simp [intOf]; omega
    · obtain rfl : k = ps.length := by omega
      rw [List.take_length] at hgood
      cases b with
      | false =>
        have HF : Hid (¬ QOk parts ps) := hbadk.out rfl
        go_wp2_with fail
        go_ret
        exact ⟨by rw [qokF HF.out]; rfl, hb.out⟩
      | true =>
        obtain ⟨hq1, hT, hT0, hT1⟩ := hgood.out rfl
        have HQ1 := Lib.hid hq1
        have HSS := Lib.hid hT
        clear hgood hq1 hT hk hlt
        by_cases hv : 1099511627776 < T
        · have HF : Hid (¬ QOk parts ps) := fun q => by have := q.all; have := HSS.out; omega
          have b1 : decide (1099511627776 < T) = true := decide_eq_true hv
          clear hv hT0 hT1
          go_wp2_with fail
          go_ret
          exact ⟨by rw [qokF HF.out]; rfl, hb.out⟩
        · have b1 : decide (1099511627776 < T) = false := decide_eq_false hv
          have HN : Hid (0 ≤ T ∧ T ≤ 1099511627776) := by unfold Hid; omega
          clear hv hT0 hT1
          go_wp2_with fail
          obtain ⟨wo, rfl⟩ : ∃ wo : World, wo = wr := ⟨_, rfl⟩
          go_loopw [80] (fun s80 wx => ∃ (k : Nat), k ≤ ps.length ∧ s80 = .int .i64 k ∧ Hid (∀ i, i < k → (kat ps i).2.1 + (kat ps i).2.2 ≤ max (2 * T / parts) 1) ∧ Hid (Below w.heap.size w wx)) (fun s80 _ => ps.length - (intOf s80).toNat)
          case atStart => exact ⟨0, Nat.zero_le _, rfl, fun i h => absurd h (Nat.not_lt_zero _), hb⟩
          case round =>
            obtain ⟨k, hk, rfl, hf, hb2⟩ := hrel
            by_cases hlt : k < ps.length
            · have i1 : (k : Int) < (ps.length : Int) := by omega
              obtain ⟨ad, rfl, _, c0, c1, c2⟩ := HS.out.trip hlt
              have d0 := (hb2.out.cell (block_lt c0)).trans c0
              have d1 := (hb2.out.cell (block_lt c1)).trans c1
              have d2 := (hb2.out.cell (block_lt c2)).trans c2
              have hqk := HQ1.out k hlt
              have HL2 := HL.out
              have uk : Hid (wrap64 ((k : Int) + 1) = ((k + 1 : Nat) : Int)) := qk64 (by omega)
              obtain ⟨g, hg⟩ : ∃ g, g = (kat ps k).2.1 := ⟨_, rfl⟩
              obtain ⟨m, hm⟩ : ∃ m, m = (kat ps k).2.2 := ⟨_, rfl⟩
              obtain ⟨N, hN⟩ : ∃ N, N = (kat ps k).1 := ⟨_, rfl⟩
              obtain ⟨n, hn⟩ : ∃ n, n = g + m := ⟨_, rfl⟩
              obtain ⟨np, hnp⟩ : ∃ np, np = n * parts := ⟨_, rfl⟩
              obtain ⟨T2, hT2⟩ : ∃ T2, T2 = 2 * T := ⟨_, rfl⟩
              unfold Q1 at hqk
              rw [← hN] at d0
              rw [← hg] at d1 hqk
              rw [← hm] at d2 hqk
              obtain ⟨g1, g2, g3, g4, _⟩ := hqk
              have N1 := HN.out
              have hn1 : 0 ≤ n ∧ n ≤ 2199023255552 := by omega
              have hnp1 : 0 ≤ np ∧ np ≤ 2199023255552 * 100 := by
                rw [hnp]; exact ⟨Int.mul_nonneg hn1.1 (by omega), Int.mul_le_mul hn1.2 HL2.2.1 (by omega) (by omega)⟩
              have hqf : Hid (n ≤ max (2 * T / parts) 1 ↔ ¬ (1 < n ∧ T2 < np)) := by rw [hT2, hnp]; exact qfit HL2.1 N1.1
              have hqg : Hid (QOk parts ps → n ≤ max (2 * T / parts) 1) := fun q => by have := q.fit k hlt; rwa [← hg, ← hm, ← HSS.out, ← hn] at this
              have HK := Lib.hid (And.intro hk hlt)
              have HG := Lib.hid (And.intro hg (And.intro hm hn))
              have w1 : Hid (wrap64 n = n) := qw64 (by omega) (by omega)
              have w2 : Hid (wrap64 np = np) := qw64 (by omega) (by omega)
              have w3 : Hid (wrap64 T2 = T2) := qw64 (by omega) (by omega)
              rcases (by omega : (1 < n ∧ T2 < np) ∨ (1 < n ∧ ¬ T2 < np) ∨ ¬ 1 < n) with ⟨e1, e2⟩ | ⟨e1, e2⟩ | e1
              · have HF : Hid (¬ QOk parts ps) := fun q => (hqf.out.1 (hqg.out q)) ⟨e1, e2⟩
                have b1 : decide (1 < n) = true := decide_eq_true e1
                have b2 : decide (T2 < np) = true := decide_eq_true e2
                clear c0 c1 c2 hk hlt hg hm hN e1 e2 g1 g2 g3 g4 N1 hn1 hnp1 HL2
                have f1 : g + m = n := hn.symm
                have f2 : n * parts = np := hnp.symm
                have f3 : 2 * T = T2 := hT2.symm
                have v1 := w1.out; have v2 := w2.out; have v3 := w3.out
                clear hn hnp hT2
                go_wp2_with fail
                go_ret
                exact ⟨by rw [qokF HF.out]; rfl, hb2.out.alloc hb2.out.size _⟩
              · have HV : Hid (n ≤ max (2 * T / parts) 1) := hqf.out.2 (fun h => e2 h.2)
                have b1 : decide (1 < n) = true := decide_eq_true e1
                have b2 : decide (T2 < np) = false := decide_eq_false e2
                clear c0 c1 c2 hk hlt hg hm hN e1 e2 g1 g2 g3 g4 N1 hn1 hnp1 HL2
                have f1 : g + m = n := hn.symm
                have f2 : n * parts = np := hnp.symm
                have f3 : 2 * T = T2 := hT2.symm
                have v1 := w1.out; have v2 := w2.out; have v3 := w3.out
                clear hn hnp hT2
                go_wp2_with fail
                go_roundw
                case rel =>
                  have := HK.out
                  refine ⟨k + 1, by omega, by first | rfl | rw [uk.out], fun i hi => ?_, hb2.out.alloc hb2.out.size _⟩
                  rcases (by omega : i < k ∨ i = k) with hi | rfl
                  · exact hf.out i hi
                  · rw [← HG.out.1, ← HG.out.2.1, ← HG.out.2.2]; exact HV.out
                case measure => (try rw [uk.out]); have := HK.out; simp [intOf]; omega
              · have HV : Hid (n ≤ max (2 * T / parts) 1) := hqf.out.2 (fun h => e1 h.1)
                have b1 : decide (1 < n) = false := decide_eq_false e1
                clear c0 c1 c2 hk hlt hg hm hN e1 g1 g2 g3 g4 N1 hn1 hnp1 HL2
                have f1 : g + m = n := hn.symm
                have v1 := w1.out
                clear hn hnp hT2
                go_wp2_with fail
                go_roundw
                case rel =>
                  have := HK.out
                  refine ⟨k + 1, by omega, by first | rfl | rw [uk.out], fun i hi => ?_, hb2.out.alloc hb2.out.size _⟩
                  rcases (by omega : i < k ∨ i = k) with hi | rfl
                  · exact hf.out i hi
                  · rw [← HG.out.1, ← HG.out.2.1, ← HG.out.2.2]; exact HV.out
                case measure => (try rw [uk.out]); have := HK.out; simp [intOf]; omega
            · obtain rfl : k = ps.length := by omega
              have HT : Hid (QOk parts ps) := ⟨HL.out.1, HL.out.2.1, HL.out.2.2, HQ1.out, by rw [← HSS.out]; exact HN.out.2, by rw [← HSS.out]; exact hf.out⟩
              go_wp2_with fail
              go_ret
              exact ⟨by rw [qokT HT.out]; rfl, hb2.out⟩
end Go.Proofs.Ytaehehoeidnidaa
