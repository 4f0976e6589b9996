/- Package quant: Right, walked. No condition but the list's own length. -/
import Derived.Test.YtaehehoeidnidaaQuaC
import Derived.BigQuiet
namespace Go.Proofs.Ytaehehoeidnidaa
open Go.ChangeShapes Go.WideShapes Go.ChangeAt Go.RowKit
set_option linter.unusedVariables false

theorem q_cases (g m N p : Int) (k : Nat) : (g < 1 ∨ (¬ g < 1 ∧ 1099511627776 < g) ∨ (¬ g < 1 ∧ ¬ 1099511627776 < g ∧ m < 0) ∨ (¬ g < 1 ∧ ¬ 1099511627776 < g ∧ ¬ m < 0 ∧ 1099511627776 < m) ∨
    (¬ g < 1 ∧ ¬ 1099511627776 < g ∧ ¬ m < 0 ∧ ¬ 1099511627776 < m ∧ 0 < (k : Int) ∧ N < p)) ∨
    (¬ g < 1 ∧ ¬ 1099511627776 < g ∧ ¬ m < 0 ∧ ¬ 1099511627776 < m ∧ ¬ 0 < (k : Int)) ∨ (¬ g < 1 ∧ ¬ 1099511627776 < g ∧ ¬ m < 0 ∧ ¬ 1099511627776 < m ∧ 0 < (k : Int) ∧ ¬ N < p) := by omega
open Classical in
noncomputable def qokB (parts : Int) (ps : List Rk) : Bool := decide (QOk parts ps)
theorem qokF {parts : Int} {ps : List Rk} (h : ¬ QOk parts ps) : qokB parts ps = false := by unfold qokB; simp [h]
theorem qokT {parts : Int} {ps : List Rk} (h : QOk parts ps) : qokB parts ps = true := by unfold qokB; simp [h]
set_option maxRecDepth 20000 in
set_option maxHeartbeats 4000000 in
theorem right_any (parts : Int) (A : Option Addr) (ps : List Rk) (c : Nat) (w : World) (hs : Seg w w.heap.size A (flat3 ps)) (hm : ps.length ≤ 9223372036854775807) :
    Calls Try.prog 87 #[.int .i64 parts, .slice A ps.length c] w fun e w' => e = .returned (.bool (qokB parts ps)) ∧ Below w.heap.size w w' := by
  have HS := Lib.hid hs
  clear hs
  rcases (by omega : parts < 1 ∨ (¬ parts < 1 ∧ 100 < parts) ∨ (¬ parts < 1 ∧ ¬ 100 < parts ∧ (400 : Int) < (ps.length : Int)) ∨ (¬ parts < 1 ∧ ¬ 100 < parts ∧ ¬ (400 : Int) < (ps.length : Int))) with h | ⟨h, h'⟩ | ⟨h, h', h''⟩ | ⟨h, h', h''⟩
  · have HF : Hid (¬ QOk parts ps) := fun q => by have := q.lo; omega
    clear hm
    go_enter Try.func87, Try.ntmps87
    go_wp2_with fail
    go_ret
    exact ⟨by rw [qokF HF.out]; rfl, Below.refl _ _⟩
  · have HF : Hid (¬ QOk parts ps) := fun q => by have := q.hi; omega
    clear hm
    go_enter Try.func87, Try.ntmps87
    go_wp2_with fail
    go_ret
    exact ⟨by rw [qokF HF.out]; rfl, Below.refl _ _⟩
  · have HF : Hid (¬ QOk parts ps) := fun q => by have := q.len; omega
    clear hm
    go_enter Try.func87, Try.ntmps87
    go_wp2_with fail
    go_ret
    exact ⟨by rw [qokF HF.out]; rfl, Below.refl _ _⟩
  · have HL : Hid (1 ≤ parts ∧ parts ≤ 100 ∧ ps.length ≤ 400) := by unfold Hid; omega
    clear hm
    go_enter Try.func87, Try.ntmps87
    go_wp2_with fail
    clear h h' h''
    go_loopw [5, 23] (fun s5 s23 wx => ∃ (k : Nat), k ≤ ps.length ∧ s5 = .int .i64 (qsum (ps.take k)) ∧ s23 = .int .i64 k ∧ Hid ((∀ i, i < k → Q1 ps i) ∧ 0 ≤ qsum (ps.take k) ∧ qsum (ps.take k) ≤ 1099511627776) ∧ Hid (Below w.heap.size w wx)) (fun _ s23 _ => ps.length - (intOf s23).toNat)
    case atStart => exact ⟨0, Nat.zero_le _, rfl, rfl, ⟨fun i h => absurd h (Nat.not_lt_zero _), by simp [qsum], by simp [qsum]⟩, Below.refl _ _⟩
    case round =>
      obtain ⟨k, hk, rfl, rfl, hq, hb⟩ := hrel
      by_cases hlt : k < ps.length
      · have i1 : (k : Int) < (ps.length : Int) := by omega
        obtain ⟨ad, rfl, _, c0, c1, c2⟩ := HS.out.trip hlt
        have d0 := (hb.out.cell (block_lt c0)).trans c0
        have d1 := (hb.out.cell (block_lt c1)).trans c1
        have d2 := (hb.out.cell (block_lt c2)).trans c2
        have hsn := qsum_take hlt
        have hqa : Hid (QOk parts ps → Q1 ps k ∧ qsum (ps.take (k + 1)) ≤ 1099511627776) := fun q => ⟨q.one k hlt, Int.le_trans (qsum_mono q.one (by omega)) q.all⟩
        obtain ⟨g, hg⟩ : ∃ g, g = (kat ps k).2.1 := ⟨_, rfl⟩
        obtain ⟨m, hm⟩ : ∃ m, m = (kat ps k).2.2 := ⟨_, rfl⟩
        obtain ⟨N, hN⟩ : ∃ N, N = (kat ps k).1 := ⟨_, rfl⟩
        rw [← hN] at d0
        rw [← hg] at d1 hsn
        rw [← hm] at d2
        have hlt2 := HL.out.2.2
        have uk : Hid (wrap64 ((k : Int) + 1) = ((k + 1 : Nat) : Int)) := qk64 (by omega)
        have HK := Lib.hid (And.intro hk hlt)
        have hq1 : Q1 ps k ↔ (1 ≤ g ∧ g ≤ 1099511627776 ∧ 0 ≤ m ∧ m ≤ 1099511627776 ∧ (0 < k → (kat ps (k - 1)).1 ≤ N)) := by unfold Q1; rw [hg, hm, hN]
        clear c0 c1 c2 hk hlt hlt2
        rcases q_cases g m N (kat ps (k - 1)).1 k with (h | ⟨h, h'⟩ | ⟨h, h', h2⟩ | ⟨h, h', h2, h3⟩ | ⟨h, h', h2, h3, h4, h5⟩) | ⟨h, h', h2, h3, h4⟩ | ⟨h, h', h2, h3, h4, h5⟩
        · have HF : Hid (¬ QOk parts ps) := fun q => by have := hq1.1 (hqa.out q).1; clear hsn; omega
          clear hq1 hqa hsn hg hm hN HL
          have b1 : decide (g < 1) = true := decide_eq_true (by omega); clear h
          go_wp2_with fail
          go_quiet (fail)
          go_wp2_with fail
          go_ret
          exact ⟨by rw [qokF HF.out]; rfl, below_drewN (hb.out.alloc hb.out.size _) _⟩
        · have HF : Hid (¬ QOk parts ps) := fun q => by have := hq1.1 (hqa.out q).1; clear hsn; omega
          clear hq1 hqa hsn hg hm hN HL
          have b1 : decide (g < 1) = false := decide_eq_false (by omega); have b2 : decide (1099511627776 < g) = true := decide_eq_true (by omega); clear h h'
          go_wp2_with fail
          go_quiet (fail)
          go_wp2_with fail
          go_ret
          exact ⟨by rw [qokF HF.out]; rfl, below_drewN (hb.out.alloc hb.out.size _) _⟩
        · have HF : Hid (¬ QOk parts ps) := fun q => by have := hq1.1 (hqa.out q).1; clear hsn; omega
          clear hq1 hqa hsn hg hm hN HL
          have b1 : decide (g < 1) = false := decide_eq_false (by omega); have b2 : decide (1099511627776 < g) = false := decide_eq_false (by omega); have b3 : decide (m < 0) = true := decide_eq_true (by omega); clear h h' h2
          go_wp2_with fail
          go_quiet (fail)
          go_wp2_with fail
          go_ret
          exact ⟨by rw [qokF HF.out]; rfl, below_drewN (hb.out.alloc hb.out.size _) _⟩
        · have HF : Hid (¬ QOk parts ps) := fun q => by have := hq1.1 (hqa.out q).1; clear hsn; omega
          clear hq1 hqa hsn hg hm hN HL
          have b1 : decide (g < 1) = false := decide_eq_false (by omega); have b2 : decide (1099511627776 < g) = false := decide_eq_false (by omega); have b3 : decide (m < 0) = false := decide_eq_false (by omega); have b4 : decide (1099511627776 < m) = true := decide_eq_true (by omega); clear h h' h2 h3
          go_wp2_with fail
          go_quiet (fail)
          go_wp2_with fail
          go_ret
          exact ⟨by rw [qokF HF.out]; rfl, below_drewN (hb.out.alloc hb.out.size _) _⟩
        · have HF : Hid (¬ QOk parts ps) := fun q => by have := hq1.1 (hqa.out q).1; clear hsn; omega
          obtain ⟨J, hJ⟩ : ∃ J : Nat, J = k - 1 := ⟨_, rfl⟩
          rw [← hJ] at h5
          obtain ⟨ae, e9, _, p0, _, _⟩ := HS.out.trip (show J < ps.length by have := HK.out; omega)
          injection e9 with e9
          subst e9
          have p1 := (hb.out.cell (block_lt p0)).trans p0
          obtain ⟨M, hM⟩ : ∃ M, M = (kat ps J).1 := ⟨_, rfl⟩
          rw [← hM] at p1 h5
          have b1 : decide (g < 1) = false := decide_eq_false (by omega); have b2 : decide (1099511627776 < g) = false := decide_eq_false (by omega); have b3 : decide (m < 0) = false := decide_eq_false (by omega); have b4 : decide (1099511627776 < m) = false := decide_eq_false (by omega)
          have b5 : decide (0 < (k : Int)) = true := decide_eq_true h4
          have b5' : decide (0 < k) = true := decide_eq_true (by omega)
          have b5'' : 0 < k := by omega
          have b6 : decide (N < M) = true := decide_eq_true h5
          have p2 : ∀ o, (wr.alloc o).cell? (ad.add (J * 3)) = some (.int .i64 M) := fun o => (World.cell?_alloc_lt wr o _ (block_lt p1)).trans p1
          have i2 : (J : Int) < (ps.length : Int) := by have := HK.out; omega
          have m1 : IntKind.i64.wrap ((k : Int) - 1) = (J : Int) := by rw [show (k : Int) - 1 = (J : Int) by omega]; exact IntWalk.i64_in _ (by have := HK.out; have := HL.out; omega)
          clear hq1 hqa hsn hg hm hN HL p0 hM h h' h2 h3 hJ
          go_wp2_with fail
          go_quiet (fail)
          go_wp2_with fail
          go_ret
          exact ⟨by rw [qokF HF.out]; rfl, below_drewN (hb.out.alloc hb.out.size _) _⟩
        · have b1 : decide (g < 1) = false := decide_eq_false (by omega); have b2 : decide (1099511627776 < g) = false := decide_eq_false (by omega); have b3 : decide (m < 0) = false := decide_eq_false (by omega); have b4 : decide (1099511627776 < m) = false := decide_eq_false (by omega)
          have b5 : decide (0 < (k : Int)) = false := decide_eq_false h4
          have b5' : decide (0 < k) = false := decide_eq_false (by omega)
          have HQ1 : Hid (Q1 ps k) := hq1.2 ⟨by omega, by omega, by omega, by omega, fun h => by omega⟩
          obtain ⟨V, hV⟩ : ∃ V, V = qsum (ps.take (k + 1)) := ⟨_, rfl⟩
          rw [← hV] at hsn
          have HVb : Hid (0 ≤ V ∧ V ≤ 2199023255552) := by have := hq.out.2; clear hq1 hqa; unfold Hid; omega
          have HV := Lib.hid hV
          have g2 : qsum (ps.take k) + g = V := hsn.symm
          have g3 : wrap64 V = V := by have := HVb.out; exact qw64 (by omega) (by omega)
          have HV2 : Hid (QOk parts ps → V ≤ 1099511627776) := fun q => by rw [hV]; exact (hqa.out q).2
          clear hq1 hqa hsn hg hm hN HL h h' h2 h3 h4 hV
          by_cases hv : 1099511627776 < V
          · have HF : Hid (¬ QOk parts ps) := fun q => by have := HV2.out q; omega
            have b7 : decide (1099511627776 < V) = true := decide_eq_true hv
            go_wp2_with fail
            go_quiet (fail)
            go_wp2_with fail
            go_ret
            exact ⟨by rw [qokF HF.out]; rfl, below_drewN (hb.out.alloc hb.out.size _) _⟩
          · have b7 : decide (1099511627776 < V) = false := decide_eq_false hv
            have HVV := Lib.hid hv
            clear hv
            go_wp2_with fail
            go_quiet (fail)
            go_wp2_with fail
            go_roundw
            case rel =>
              have := HK.out
              refine ⟨k + 1, by omega, by first | rfl | rw [← HV.out, g3] | rw [← HV.out], by first | rfl | rw [uk.out], ⟨fun i hi => ?_, ?_⟩, below_drewN (hb.out.alloc hb.out.size _) _⟩
              · rcases (by omega : i < k ∨ i = k) with hi | rfl
                · exact hq.out.1 i hi
                · exact HQ1.out
              · rw [← HV.out]; have := HVb.out; have := HVV.out; omega
            case measure => (try rw [uk.out]); have := HK.out; simp [intOf]; omega
        · have b1 : decide (g < 1) = false := decide_eq_false (by omega); have b2 : decide (1099511627776 < g) = false := decide_eq_false (by omega); have b3 : decide (m < 0) = false := decide_eq_false (by omega); have b4 : decide (1099511627776 < m) = false := decide_eq_false (by omega)
          obtain ⟨J, hJ⟩ : ∃ J : Nat, J = k - 1 := ⟨_, rfl⟩
          have HQ1 : Hid (Q1 ps k) := hq1.2 ⟨by omega, by omega, by omega, by omega, fun h => by omega⟩
          rw [← hJ] at h5
          obtain ⟨ae, e9, _, p0, _, _⟩ := HS.out.trip (show J < ps.length by have := HK.out; omega)
          injection e9 with e9
          subst e9
          have p1 := (hb.out.cell (block_lt p0)).trans p0
          obtain ⟨M, hM⟩ : ∃ M, M = (kat ps J).1 := ⟨_, rfl⟩
          rw [← hM] at p1 h5
          have b5 : decide (0 < (k : Int)) = true := decide_eq_true h4
          have b5' : decide (0 < k) = true := decide_eq_true (by omega)
          have b5'' : 0 < k := by omega
          have b6 : decide (N < M) = false := decide_eq_false h5
          have p2 : ∀ o, (wr.alloc o).cell? (ad.add (J * 3)) = some (.int .i64 M) := fun o => (World.cell?_alloc_lt wr o _ (block_lt p1)).trans p1
          have i2 : (J : Int) < (ps.length : Int) := by have := HK.out; omega
          have m1 : IntKind.i64.wrap ((k : Int) - 1) = (J : Int) := by rw [show (k : Int) - 1 = (J : Int) by omega]; exact IntWalk.i64_in _ (by have := HK.out; have := HL.out; omega)
          clear p0 hM hJ h5
          obtain ⟨V, hV⟩ : ∃ V, V = qsum (ps.take (k + 1)) := ⟨_, rfl⟩
          rw [← hV] at hsn
          have HVb : Hid (0 ≤ V ∧ V ≤ 2199023255552) := by have := hq.out.2; clear hq1 hqa; unfold Hid; omega
          have HV := Lib.hid hV
          have g2 : qsum (ps.take k) + g = V := hsn.symm
          have g3 : wrap64 V = V := by have := HVb.out; exact qw64 (by omega) (by omega)
          have HV2 : Hid (QOk parts ps → V ≤ 1099511627776) := fun q => by rw [hV]; exact (hqa.out q).2
          clear hq1 hqa hsn hg hm hN HL h h' h2 h3 h4 hV
          by_cases hv : 1099511627776 < V
          · have HF : Hid (¬ QOk parts ps) := fun q => by have := HV2.out q; omega
            have b7 : decide (1099511627776 < V) = true := decide_eq_true hv
            go_wp2_with fail
            go_quiet (fail)
            go_wp2_with fail
            go_ret
            exact ⟨by rw [qokF HF.out]; rfl, below_drewN (hb.out.alloc hb.out.size _) _⟩
          · have b7 : decide (1099511627776 < V) = false := decide_eq_false hv
            have HVV := Lib.hid hv
            clear hv
            go_wp2_with fail
            go_quiet (fail)
            go_wp2_with fail
            go_roundw
            case rel =>
              have := HK.out
              refine ⟨k + 1, by omega, by first | rfl | rw [← HV.out, g3] | rw [← HV.out], by first | rfl | rw [uk.out], ⟨fun i hi => ?_, ?_⟩, below_drewN (hb.out.alloc hb.out.size _) _⟩
              · rcases (by omega : i < k ∨ i = k) with hi | rfl
                · exact hq.out.1 i hi
                · exact HQ1.out
              · rw [← HV.out]; have := HVb.out; have := HVV.out; omega
            case measure => (try rw [uk.out]); have := HK.out; simp [intOf]; omega
      · obtain rfl : k = ps.length := by omega
        rw [List.take_length] at hq ⊢
        have HN : Hid (0 ≤ qsum ps ∧ qsum ps ≤ 1099511627776) := hq.out.2
        have HQ1 : Hid (∀ i, i < ps.length → Q1 ps i) := hq.out.1
        clear hq hk hlt
        obtain ⟨S, hS⟩ : ∃ S, S = qsum ps := ⟨_, rfl⟩
        rw [← hS] at HN ⊢
        have HSS := Lib.hid hS
        clear hS
        go_wp2_with fail
        obtain ⟨wo, rfl⟩ : ∃ wo : World, wo = wr := ⟨_, rfl⟩
        go_loopw [70] (fun s70 wx => ∃ (k : Nat), k ≤ ps.length ∧ s70 = .int .i64 k ∧ Hid (∀ i, i < k → (kat ps i).2.1 + (kat ps i).2.2 ≤ max (2 * S / parts) 1) ∧ Hid (Below w.heap.size w wx)) (fun s70 _ => ps.length - (intOf s70).toNat)
        case atStart => exact ⟨0, Nat.zero_le _, rfl, fun i h => absurd h (Nat.not_lt_zero _), hb⟩
        case round =>
          obtain ⟨k, hk, rfl, hf, hb2⟩ := hrel
          by_cases hlt : k < ps.length
          · have i1 : (k : Int) < (ps.length : Int) := by omega
            obtain ⟨ad, rfl, _, c0, c1, c2⟩ := HS.out.trip hlt
            have d0 := (hb2.out.cell (block_lt c0)).trans c0
            have d1 := (hb2.out.cell (block_lt c1)).trans c1
            have d2 := (hb2.out.cell (block_lt c2)).trans c2
            have hqk := HQ1.out k hlt
            have HL2 := HL.out
            have uk : Hid (wrap64 ((k : Int) + 1) = ((k + 1 : Nat) : Int)) := qk64 (by omega)
            obtain ⟨g, hg⟩ : ∃ g, g = (kat ps k).2.1 := ⟨_, rfl⟩
            obtain ⟨m, hm⟩ : ∃ m, m = (kat ps k).2.2 := ⟨_, rfl⟩
            obtain ⟨N, hN⟩ : ∃ N, N = (kat ps k).1 := ⟨_, rfl⟩
            unfold Q1 at hqk
            rw [← hN] at d0
            rw [← hg] at d1 hqk
            rw [← hm] at d2 hqk
            obtain ⟨g1, g2, g3, g4, _⟩ := hqk
            have N1 := HN.out
            have hq0 : 0 ≤ 2 * S / parts ∧ 2 * S / parts ≤ 2199023255552 := ⟨Int.ediv_nonneg (by omega) (by omega), Int.le_trans (Int.ediv_le_self _ (by omega)) (by omega)⟩
            have hqf : Hid (QOk parts ps → g + m ≤ max (2 * S / parts) 1) := fun q => by have := q.fit k hlt; rwa [← hg, ← hm, ← HSS.out] at this
            have HK := Lib.hid (And.intro hk hlt)
            have tq : (2 * S).tdiv parts = 2 * S / parts := Int.tdiv_eq_ediv_of_nonneg (by omega)
            have m1 : IntKind.i64.wrap (g + m) = g + m := IntWalk.i64_in _ (by omega)
            have m2 : IntKind.i64.wrap (2 * S) = 2 * S := IntWalk.i64_in _ (by omega)
            have m3 : IntKind.i64.wrap (2 * S / parts) = 2 * S / parts := IntWalk.i64_in _ (by omega)
            have p0 : (parts == 0) = false := by simp; omega
            have HG := Lib.hid (And.intro hg hm)
            clear c0 c1 c2 hk hlt hg hm hN
            by_cases hQ1 : 2 * S / parts < 1
            · have HMX : Hid (max (2 * S / parts) 1 = 1) := by unfold Hid; omega
              by_cases hv : 1 < g + m
              · have HF : Hid (¬ QOk parts ps) := fun q => by have := hqf.out q; have := HMX.out; omega
                have b1 : decide (1 < g + m) = true := decide_eq_true hv
                clear hv
                go_wp2_with fail
                go_quiet (fail)
                go_wp2_with fail
                go_ret
                exact ⟨by rw [qokF HF.out]; rfl, below_drewN (hb2.out.alloc hb2.out.size _) _⟩
              · have b1 : decide (1 < g + m) = false := decide_eq_false hv
                have HV := Lib.hid hv
                clear hv
                go_wp2_with fail
                go_quiet (fail)
                go_wp2_with fail
                go_roundw
                case rel =>
                  have := HK.out
                  refine ⟨k + 1, by omega, by first | rfl | rw [uk.out], fun i hi => ?_, below_drewN (hb2.out.alloc hb2.out.size _) _⟩
                  rcases (by omega : i < k ∨ i = k) with hi | rfl
                  · exact hf.out i hi
                  · rw [← HG.out.1, ← HG.out.2, HMX.out]; have := HV.out; omega
                case measure => (try rw [uk.out]); have := HK.out; simp [intOf]; omega
            · have HMX : Hid (max (2 * S / parts) 1 = 2 * S / parts) := by unfold Hid; omega
              by_cases hv : 2 * S / parts < g + m
              · have HF : Hid (¬ QOk parts ps) := fun q => by have := hqf.out q; have := HMX.out; omega
                have b1 : decide (2 * S / parts < g + m) = true := decide_eq_true hv
                clear hv
                go_wp2_with fail
                go_quiet (fail)
                go_wp2_with fail
                go_ret
                exact ⟨by rw [qokF HF.out]; rfl, below_drewN (hb2.out.alloc hb2.out.size _) _⟩
              · have b1 : decide (2 * S / parts < g + m) = false := decide_eq_false hv
                have HV := Lib.hid hv
                clear hv
                go_wp2_with fail
                go_quiet (fail)
                go_wp2_with fail
                go_roundw
                case rel =>
                  have := HK.out
                  refine ⟨k + 1, by omega, by first | rfl | rw [uk.out], fun i hi => ?_, below_drewN (hb2.out.alloc hb2.out.size _) _⟩
                  rcases (by omega : i < k ∨ i = k) with hi | rfl
                  · exact hf.out i hi
                  · rw [← HG.out.1, ← HG.out.2, HMX.out]; have := HV.out; omega
                case measure => (try rw [uk.out]); have := HK.out; simp [intOf]; omega
          · obtain rfl : k = ps.length := by omega
            have HT : Hid (QOk parts ps) := ⟨HL.out.1, HL.out.2.1, HL.out.2.2, HQ1.out, by rw [← HSS.out]; exact HN.out.2, by rw [← HSS.out]; exact hf.out⟩
            go_wp2_with fail
            go_ret
            exact ⟨by rw [qokT HT.out]; rfl, hb2.out⟩
end Go.Proofs.Ytaehehoeidnidaa
