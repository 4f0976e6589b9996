/- Package bayes and its reference: what is wrong, walked. Printed by baywgen.py. No condition. -/
import Derived.Test.YtaehehoeidnidaaBayM
import Derived.Test.YtaehehoeidnidaaRwI
import Derived.BigQuiet
namespace Go.Proofs.Ytaehehoeidnidaa
open Go.ChangeShapes Go.WideShapes Go.ChangeAt Go.RowKit
set_option linter.unusedVariables false

theorem bw64 {k : Nat} (h : k < 9223372036854775807) : wrap64 ((k : Int) + 1) = ((k + 1 : Nat) : Int) := by unfold wrap64; omega
theorem bwall_at {n0 : Nat} {prior : List Int} {M : List (List Int)} {k : Nat} (h1 : k < prior.length) (h2 : k < M.length) :
    bwall n0 ((prior.zip M).drop k) = if bwone n0 (pat prior k, M[k]) ≠ 0 then bwone n0 (pat prior k, M[k]) else bwall n0 ((prior.zip M).drop (k + 1)) := by
  have h : k < (prior.zip M).length := by simp; omega
  rw [List.drop_eq_getElem_cons h, pat_get h1]
  simp [bwall]
theorem any_at {z : List Int} {j : Nat} (hj : j < z.length) (h : z[j] < 0 ∨ 9 < z[j]) : z.any (fun y => decide (y < 0) || decide (9 < y)) = true :=
  List.any_eq_true.2 ⟨z[j], List.getElem_mem hj, by simpa using h⟩
theorem any_none {z : List Int} (h : ∀ j (hj : j < z.length), ¬ (z[j] < 0 ∨ 9 < z[j])) : z.any (fun y => decide (y < 0) || decide (9 < y)) = false := by
  rw [Bool.eq_false_iff]
  intro h1
  obtain ⟨y, hy, h2⟩ := List.any_eq_true.1 h1
  obtain ⟨j, hj, rfl⟩ := List.mem_iff_getElem.1 hy
  exact h j hj (by simpa using h2)
set_option maxRecDepth 20000 in
set_option maxHeartbeats 4000000 in
theorem bwrong_any (A C : Option Addr) (prior : List Int) (l : List Rw) (c d B : Nat) (w : World) (hp : Seg w B A (prior.map (.int .i64))) (hl : RowsOk w B C l) (hm : prior.length ≤ 9223372036854775807) (hm2 : l.length ≤ 9223372036854775807) :
    Calls Try.prog 38 #[.slice A prior.length c, .slice C l.length d] w fun e w' => e = .returned (.int .i64 (bwrong prior (nums l))) ∧ ∃ m, w' = w.drewN m := by
  have HP := Lib.hid hp
  have HL := Lib.hid hl
  have en : (nums l).length = l.length := by simp [nums]
  by_cases h1 : prior.length = l.length
  · by_cases h2 : prior.length < 1 ∨ 8 < prior.length
    · have hf : bwrong prior (nums l) = 2 := by unfold bwrong; rw [if_neg (by omega), if_pos h2]
      have b0 : ((prior.length : Int) != (l.length : Int)) = false := by rw [h1]; simp
      rw [hf]
      clear hf hp hl en
      rcases (by omega : prior.length = 0 ∨ (¬ prior.length = 0 ∧ 8 < prior.length)) with h3 | ⟨h4, h3⟩
      · rw [h3] at b0 ⊢
        go_enter Try.func38, Try.ntmps38
        go_wp2_with fail
        go_ret
        exact ⟨rfl, 0, rfl⟩
      · have i0 : ¬ (prior.length : Int) < 1 := by omega
        have i1 : (8 : Int) < (prior.length : Int) := by omega
        have i2 : ¬ (prior.length : Int) < 1 := by omega
        clear h2 h4 h1
        go_enter Try.func38, Try.ntmps38
        go_wp2_with fail
        go_ret
        exact ⟨rfl, 0, rfl⟩
    have b0 : ((prior.length : Int) != (l.length : Int)) = false := by rw [h1]; simp
    have i0 : ¬ (prior.length : Int) < 1 := by omega
    have i1 : ¬ (8 : Int) < (prior.length : Int) := by omega
    have i2 : ¬ (prior.length : Int) < 1 := by omega
    obtain ⟨n0, hn0⟩ : ∃ n, n = ((nums l).headD []).length := ⟨_, rfl⟩
    have HF : Hid (bwrong prior (nums l) = bwall n0 ((prior.zip (nums l)).drop 0)) := by unfold Hid bwrong; rw [if_neg (by omega), if_neg h2, hn0]; rfl
    obtain ⟨ad, rfl, had, hc0, hr0⟩ := HL.out.row (k := 0) (by omega)
    have e0 : l[0].2.1.length = n0 := by
      rw [hn0]; unfold nums
      cases l with
      | nil => exfalso; have h9 : prior.length = 0 := h1; omega
      | cons x l => rfl
    have hc0' : w.cell? ad = some (rowV l[0]) := hc0
    obtain ⟨⟨A0, z0, c0⟩, hx0⟩ : ∃ x : Rw, x = l[0] := ⟨_, rfl⟩
    rw [← hx0] at hc0 hc0' e0
    have hz0 : z0.length = n0 := e0
    have hcc : w.cell? ad = some (.slice A0 z0.length c0) := hc0'
    rw [hz0] at hcc
    have HC0 := Lib.hid hcc
    have HLN := Lib.hid (And.intro h1 (And.intro en (Nat.le_of_not_lt fun h => h2 (.inr h))))
    have h2' : 1 ≤ l.length := by omega
    have H2 := Lib.hid h2'
    clear hp hl hc0 hc0' hr0 e0 hx0 hn0 hz0 hcc h2 h2' en had
    go_enter Try.func38, Try.ntmps38
    go_wp2_with fail
    clear b0 i0 i1 i2
    go_loopw [24] (fun s24 wx => ∃ (k m : Nat), k ≤ prior.length ∧ s24 = .int .i64 k ∧ Hid (bwall n0 ((prior.zip (nums l)).drop k) = bwrong prior (nums l)) ∧ wx = w.drewN m) (fun s24 _ => prior.length - (intOf s24).toNat)
    case atStart => exact ⟨0, 0, Nat.zero_le _, rfl, HF.out.symm, rfl⟩
    case round =>
      obtain ⟨k, m, hk, rfl, hg, rfl⟩ := hrel
      by_cases hlt : k < prior.length
      · have i1 : (k : Int) < (prior.length : Int) := by omega
        have i2 : (k : Int) < (l.length : Int) := by omega
        have i3 : (0 : Int) < (l.length : Int) := by have := H2.out; omega
        obtain ⟨pd, rfl, _, hcp⟩ := HP.out.pat hlt
        obtain ⟨ad2, e2, _, hcr, hrr⟩ := HL.out.row (k := k) (by omega)
        injection e2 with e2
        subst e2
        have hstep := bwall_at (n0 := n0) (prior := prior) (M := nums l) hlt (by have := HLN.out; omega)
        rw [hg.out] at hstep
        have hMk : (nums l)[k]'(by have := HLN.out; omega) = l[k].2.1 := by simp [nums]
        rw [hMk] at hstep
        obtain ⟨⟨A1, z, c1⟩, hx1⟩ : ∃ x : Rw, x = l[k] := ⟨_, rfl⟩
        rw [← hx1] at hcr hrr hstep
        have hcr' : w.cell? (ad.add k) = some (.slice A1 z.length c1) := hcr
        have hrr' : Seg w B A1 (z.map (.int .i64)) ∧ z.length ≤ c1 ∧ c1 ≤ maxLen ∧ _ := hrr
        have hc00 := HC0.out
        have HZ := Lib.hid hrr'.1
        have HZL : Hid (z.length ≤ 9223372036854775807) := by have h3 := hrr'.2.1; have h4 := hrr'.2.2.1; unfold maxLen at h4; unfold Hid; omega
        have hst : bwrong prior (nums l) = if bwone n0 (pat prior k, z) ≠ 0 then bwone n0 (pat prior k, z) else bwall n0 ((prior.zip (nums l)).drop (k + 1)) := hstep
        have HST := Lib.hid hst
        have HKK := Lib.hid (And.intro hk hlt)
        have uk : Hid (wrap64 ((k : Int) + 1) = ((k + 1 : Nat) : Int)) := bw64 (by have := HLN.out; omega)
        clear hg hstep hst hMk hcr hrr hrr' hx1 hk hlt
        obtain ⟨p, hpp⟩ : ∃ p, p = pat prior k := ⟨_, rfl⟩
        rw [← hpp] at hcp HST
        clear hpp
        by_cases hpb : p < 0 ∨ 1000 < p
        · have hf : Hid (bwrong prior (nums l) = 2) := by
            have e : bwone n0 (p, z) = 2 := if_pos hpb
            unfold Hid; rw [HST.out, e]; rfl
          rcases (by omega : p < 0 ∨ (¬ p < 0 ∧ 1000 < p)) with h3 | ⟨h4, h3⟩
          all_goals
            clear hpb hcr' hc00
            go_wp2_with fail
            go_ret
            exact ⟨by rw [hf.out]; rfl, m, rfl⟩
        · have i4 : ¬ p < 0 := by omega
          have i5 : ¬ 1000 < p := by omega
          by_cases hln : z.length = n0
          · have b1 : ((z.length : Int) != (n0 : Int)) = false := by rw [hln]; simp
            have HPB := Lib.hid hpb
            have HLZ := Lib.hid hln
            clear hpb hln
            go_wp2_with fail
            go_quiet (fail)
            go_wp2_with fail
            clear i4 i5 b1 hc00 hcp
            go_loopw [50] (fun s50 wx => ∃ (j : Nat), j ≤ z.length ∧ s50 = .int .i64 j ∧ Hid (∀ i (hi : i < z.length), i < j → ¬ (z[i] < 0 ∨ 9 < z[i])) ∧ wx = w.drewN (m + nq)) (fun s50 _ => z.length - (intOf s50).toNat)
            case atStart => exact ⟨0, Nat.zero_le _, rfl, fun i hi h => absurd h (Nat.not_lt_zero _), by first | rfl | trivial⟩
            case round =>
              obtain ⟨j, hj, rfl, hgj, rfl⟩ := hrel
              by_cases hjl : j < z.length
              · have j1 : (j : Int) < (z.length : Int) := by omega
                obtain ⟨zd, rfl, _, hcz⟩ := HZ.out.int hjl
                have uj : Hid (wrap64 ((j : Int) + 1) = ((j + 1 : Nat) : Int)) := bw64 (by have := HZL.out; omega)
                by_cases hb : z[j] < 0 ∨ 9 < z[j]
                · have hf : Hid (bwrong prior (nums l) = 2) := by
                    have e : bwone n0 (p, z) = 2 := by
                      unfold bwone
                      rw [if_neg HPB.out, if_neg (by have := HLZ.out; show ¬ z.length ≠ n0; omega), if_pos (any_at hjl hb)]
                    unfold Hid; rw [HST.out, e]; rfl
                  obtain ⟨x, hx⟩ : ∃ x, x = z[j] := ⟨_, rfl⟩
                  rw [← hx] at hb hcz
                  clear hx hgj
                  rcases (by omega : x < 0 ∨ (¬ x < 0 ∧ 9 < x)) with h3 | ⟨h4, h3⟩
                  all_goals
                    clear hb
                    go_wp2_with fail
                    go_ret
                    exact ⟨by rw [hf.out]; rfl, m + nq, rfl⟩
                · have HGJ : Hid (∀ i (hi : i < z.length), i < j + 1 → ¬ (z[i] < 0 ∨ 9 < z[i])) := fun i hi h => by
                    by_cases e : i = j
                    · subst e; exact hb
                    · exact hgj.out i hi (by omega)
                  obtain ⟨x, hx⟩ : ∃ x, x = z[j] := ⟨_, rfl⟩
                  rw [← hx] at hb hcz
                  have h3 : ¬ x < 0 := by omega
                  have h4 : ¬ 9 < x := by omega
                  have HJ := Lib.hid (And.intro hj hjl)
                  clear hx hgj hb hj hjl
                  go_wp2_with fail
                  go_roundw
                  case rel => exact ⟨j + 1, by have := HJ.out; omega, by rw [uj.out], HGJ, by first | rfl | trivial⟩
                  case measure => rw [uj.out]; have := HJ.out; simp [intOf]; omega
              · have e : bwone n0 (p, z) = 0 := by
                  unfold bwone
                  rw [if_neg HPB.out, if_neg (by have := HLZ.out; show ¬ z.length ≠ n0; omega), if_neg (by rw [any_none fun i hi => hgj.out i hi (by omega)]; exact Bool.false_ne_true)]
                have hf : Hid (bwall n0 ((prior.zip (nums l)).drop (k + 1)) = bwrong prior (nums l)) := by
                  unfold Hid; rw [HST.out, e, if_neg (by simp)]
                have j1 : ¬ (j : Int) < (z.length : Int) := by omega
                clear hj hjl hgj e
                go_wp2_with fail
                go_roundw
                case rel => exact ⟨k + 1, m + nq, by have := HKK.out; omega, by first | rfl | rw [uk.out], hf, by first | rfl | trivial⟩
                case measure => (try rw [uk.out]); have := HKK.out; simp [intOf]; omega
          · have b1 : ((z.length : Int) != (n0 : Int)) = true := by simp; omega
            have hf : Hid (bwrong prior (nums l) = 1) := by
              have e : bwone n0 (p, z) = 1 := by unfold bwone; rw [if_neg hpb, if_pos hln]
              unfold Hid; rw [HST.out, e]; rfl
            clear hpb hln
            go_wp2_with fail
            go_quiet (fail)
            go_wp2_with fail
            go_ret
            exact ⟨by rw [hf.out]; rfl, m + nq, by first | rfl | rw [World.drewN_drewN]⟩
      · obtain rfl : k = prior.length := by omega
        have hf : Hid (bwrong prior (nums l) = 0) := by
          have h := hg.out
          rw [List.drop_eq_nil_of_le (by simp; omega)] at h
          exact h.symm
        clear hg
        go_wp2_with fail
        go_ret
        exact ⟨by rw [hf.out]; rfl, m, rfl⟩
  · have b0 : ((prior.length : Int) != (l.length : Int)) = true := by simp; omega
    have hf : bwrong prior (nums l) = 1 := by unfold bwrong; rw [if_pos (by omega)]
    rw [hf]
    clear hf hp hl en h1
    go_enter Try.func38, Try.ntmps38
    go_wp2_with fail
    go_ret
    exact ⟨rfl, 0, rfl⟩
set_option maxRecDepth 20000 in
set_option maxHeartbeats 4000000 in
theorem uwrong_any (A C : Option Addr) (prior : List Int) (l : List Rw) (c d B : Nat) (w : World) (hp : Seg w B A (prior.map (.int .i64))) (hl : RowsOk w B C l) (hm : prior.length ≤ 9223372036854775807) (hm2 : l.length ≤ 9223372036854775807) :
    Calls Try.prog 39 #[.slice A prior.length c, .slice C l.length d] w fun e w' => e = .returned (.int .i64 (bwrong prior (nums l))) ∧ ∃ m, w' = w.drewN m := by
  have HP := Lib.hid hp
  have HL := Lib.hid hl
  have en : (nums l).length = l.length := by simp [nums]
  by_cases h1 : prior.length = l.length
  · by_cases h2 : prior.length < 1 ∨ 8 < prior.length
    · have hf : bwrong prior (nums l) = 2 := by unfold bwrong; rw [if_neg (by omega), if_pos h2]
      have b0 : ((prior.length : Int) != (l.length : Int)) = false := by rw [h1]; simp
      rw [hf]
      clear hf hp hl en
      rcases (by omega : prior.length = 0 ∨ (¬ prior.length = 0 ∧ 8 < prior.length)) with h3 | ⟨h4, h3⟩
      · rw [h3] at b0 ⊢
        go_enter Try.func39, Try.ntmps39
        go_wp2_with fail
        go_ret
        exact ⟨rfl, 0, rfl⟩
      · have i0 : ¬ (prior.length : Int) = 0 := by omega
        have i1 : (8 : Int) < (prior.length : Int) := by omega
        have i2 : ¬ (prior.length : Int) < 1 := by omega
        have b1 : ((prior.length : Int) == 0) = false := by rw [beq_eq_false_iff_ne]; omega
        have b1p : ((l.length : Int) == 0) = false := by rw [beq_eq_false_iff_ne]; omega
        have i0p : ¬ (l.length : Int) = 0 := by omega
        clear h2 h4 h1
        go_enter Try.func39, Try.ntmps39
        go_wp2_with fail
        go_ret
        exact ⟨rfl, 0, rfl⟩
    have b0 : ((prior.length : Int) != (l.length : Int)) = false := by rw [h1]; simp
    have i0 : ¬ (prior.length : Int) = 0 := by omega
    have i1 : ¬ (8 : Int) < (prior.length : Int) := by omega
    have i2 : ¬ (prior.length : Int) < 1 := by omega
    have b1 : ((prior.length : Int) == 0) = false := by rw [beq_eq_false_iff_ne]; omega
    have b1p : ((l.length : Int) == 0) = false := by rw [beq_eq_false_iff_ne]; omega
    have i0p : ¬ (l.length : Int) = 0 := by omega
    obtain ⟨n0, hn0⟩ : ∃ n, n = ((nums l).headD []).length := ⟨_, rfl⟩
    have HF : Hid (bwrong prior (nums l) = bwall n0 ((prior.zip (nums l)).drop 0)) := by unfold Hid bwrong; rw [if_neg (by omega), if_neg h2, hn0]; rfl
    obtain ⟨ad, rfl, had, hc0, hr0⟩ := HL.out.row (k := 0) (by omega)
    have e0 : l[0].2.1.length = n0 := by
      rw [hn0]; unfold nums
      cases l with
      | nil => exfalso; have h9 : prior.length = 0 := h1; omega
      | cons x l => rfl
    have hc0' : w.cell? ad = some (rowV l[0]) := hc0
    obtain ⟨⟨A0, z0, c0⟩, hx0⟩ : ∃ x : Rw, x = l[0] := ⟨_, rfl⟩
    rw [← hx0] at hc0 hc0' e0
    have hz0 : z0.length = n0 := e0
    have hcc : w.cell? ad = some (.slice A0 z0.length c0) := hc0'
    rw [hz0] at hcc
    have HC0 := Lib.hid hcc
    have HLN := Lib.hid (And.intro h1 (And.intro en (Nat.le_of_not_lt fun h => h2 (.inr h))))
    have h2' : 1 ≤ l.length := by omega
    have H2 := Lib.hid h2'
    clear hp hl hc0 hc0' hr0 e0 hx0 hn0 hz0 hcc h2 h2' en had
    go_enter Try.func39, Try.ntmps39
    go_wp2_with fail
    clear b0 i0 i1 i2
    go_loopw [23] (fun s23 wx => ∃ (k m : Nat), k ≤ prior.length ∧ s23 = .int .i64 k ∧ Hid (bwall n0 ((prior.zip (nums l)).drop k) = bwrong prior (nums l)) ∧ wx = w.drewN m) (fun s23 _ => prior.length - (intOf s23).toNat)
    case atStart => exact ⟨0, 0, Nat.zero_le _, rfl, HF.out.symm, rfl⟩
    case round =>
      obtain ⟨k, m, hk, rfl, hg, rfl⟩ := hrel
      by_cases hlt : k < prior.length
      · have i1 : (k : Int) < (prior.length : Int) := by omega
        have i2 : (k : Int) < (l.length : Int) := by omega
        have i3 : (0 : Int) < (l.length : Int) := by have := H2.out; omega
        obtain ⟨pd, rfl, _, hcp⟩ := HP.out.pat hlt
        obtain ⟨ad2, e2, _, hcr, hrr⟩ := HL.out.row (k := k) (by omega)
        injection e2 with e2
        subst e2
        have hstep := bwall_at (n0 := n0) (prior := prior) (M := nums l) hlt (by have := HLN.out; omega)
        rw [hg.out] at hstep
        have hMk : (nums l)[k]'(by have := HLN.out; omega) = l[k].2.1 := by simp [nums]
        rw [hMk] at hstep
        obtain ⟨⟨A1, z, c1⟩, hx1⟩ : ∃ x : Rw, x = l[k] := ⟨_, rfl⟩
        rw [← hx1] at hcr hrr hstep
        have hcr' : w.cell? (ad.add k) = some (.slice A1 z.length c1) := hcr
        have hrr' : Seg w B A1 (z.map (.int .i64)) ∧ z.length ≤ c1 ∧ c1 ≤ maxLen ∧ _ := hrr
        have hc00 := HC0.out
        have HZ := Lib.hid hrr'.1
        have HZL : Hid (z.length ≤ 9223372036854775807) := by have h3 := hrr'.2.1; have h4 := hrr'.2.2.1; unfold maxLen at h4; unfold Hid; omega
        have hst : bwrong prior (nums l) = if bwone n0 (pat prior k, z) ≠ 0 then bwone n0 (pat prior k, z) else bwall n0 ((prior.zip (nums l)).drop (k + 1)) := hstep
        have HST := Lib.hid hst
        have HKK := Lib.hid (And.intro hk hlt)
        have uk : Hid (wrap64 ((k : Int) + 1) = ((k + 1 : Nat) : Int)) := bw64 (by have := HLN.out; omega)
        clear hg hstep hst hMk hcr hrr hrr' hx1 hk hlt
        obtain ⟨p, hpp⟩ : ∃ p, p = pat prior k := ⟨_, rfl⟩
        rw [← hpp] at hcp HST
        clear hpp
        by_cases hpb : p < 0 ∨ 1000 < p
        · have hf : Hid (bwrong prior (nums l) = 2) := by
            have e : bwone n0 (p, z) = 2 := if_pos hpb
            unfold Hid; rw [HST.out, e]; rfl
          rcases (by omega : p < 0 ∨ (¬ p < 0 ∧ 1000 < p)) with h3 | ⟨h4, h3⟩
          all_goals
            clear hpb hcr' hc00
            go_wp2_with fail
            go_ret
            exact ⟨by rw [hf.out]; rfl, m, rfl⟩
        · have i4 : ¬ p < 0 := by omega
          have i5 : ¬ 1000 < p := by omega
          by_cases hln : z.length = n0
          · have b1 : ((z.length : Int) != (n0 : Int)) = false := by rw [hln]; simp
            have HPB := Lib.hid hpb
            have HLZ := Lib.hid hln
            clear hpb hln
            go_wp2_with fail
            go_quiet (fail)
            go_wp2_with fail
            clear i4 i5 b1 hc00 hcp
            go_loopw [53] (fun s53 wx => ∃ (j : Nat), j ≤ z.length ∧ s53 = .int .i64 j ∧ Hid (∀ i (hi : i < z.length), i < j → ¬ (z[i] < 0 ∨ 9 < z[i])) ∧ wx = w.drewN (m + nq)) (fun s53 _ => z.length - (intOf s53).toNat)
            case atStart => exact ⟨0, Nat.zero_le _, rfl, fun i hi h => absurd h (Nat.not_lt_zero _), by first | rfl | trivial⟩
            case round =>
              obtain ⟨j, hj, rfl, hgj, rfl⟩ := hrel
              by_cases hjl : j < z.length
              · have j1 : (j : Int) < (z.length : Int) := by omega
                obtain ⟨zd, rfl, _, hcz⟩ := HZ.out.int hjl
                have uj : Hid (wrap64 ((j : Int) + 1) = ((j + 1 : Nat) : Int)) := bw64 (by have := HZL.out; omega)
                by_cases hb : z[j] < 0 ∨ 9 < z[j]
                · have hf : Hid (bwrong prior (nums l) = 2) := by
                    have e : bwone n0 (p, z) = 2 := by
                      unfold bwone
                      rw [if_neg HPB.out, if_neg (by have := HLZ.out; show ¬ z.length ≠ n0; omega), if_pos (any_at hjl hb)]
                    unfold Hid; rw [HST.out, e]; rfl
                  obtain ⟨x, hx⟩ : ∃ x, x = z[j] := ⟨_, rfl⟩
                  rw [← hx] at hb hcz
                  clear hx hgj
                  rcases (by omega : x < 0 ∨ (¬ x < 0 ∧ 9 < x)) with h3 | ⟨h4, h3⟩
                  all_goals
                    clear hb
                    go_wp2_with fail
                    go_ret
                    exact ⟨by rw [hf.out]; rfl, m + nq, rfl⟩
                · have HGJ : Hid (∀ i (hi : i < z.length), i < j + 1 → ¬ (z[i] < 0 ∨ 9 < z[i])) := fun i hi h => by
                    by_cases e : i = j
                    · subst e; exact hb
                    · exact hgj.out i hi (by omega)
                  obtain ⟨x, hx⟩ : ∃ x, x = z[j] := ⟨_, rfl⟩
                  rw [← hx] at hb hcz
                  have h3 : ¬ x < 0 := by omega
                  have h4 : ¬ 9 < x := by omega
                  have HJ := Lib.hid (And.intro hj hjl)
                  clear hx hgj hb hj hjl
                  go_wp2_with fail
                  go_roundw
                  case rel => exact ⟨j + 1, by have := HJ.out; omega, by rw [uj.out], HGJ, by first | rfl | trivial⟩
                  case measure => rw [uj.out]; have := HJ.out; simp [intOf]; omega
              · have e : bwone n0 (p, z) = 0 := by
                  unfold bwone
                  rw [if_neg HPB.out, if_neg (by have := HLZ.out; show ¬ z.length ≠ n0; omega), if_neg (by rw [any_none fun i hi => hgj.out i hi (by omega)]; exact Bool.false_ne_true)]
                have hf : Hid (bwall n0 ((prior.zip (nums l)).drop (k + 1)) = bwrong prior (nums l)) := by
                  unfold Hid; rw [HST.out, e, if_neg (by simp)]
                have j1 : ¬ (j : Int) < (z.length : Int) := by omega
                clear hj hjl hgj e
                go_wp2_with fail
                go_roundw
                case rel => exact ⟨k + 1, m + nq, by have := HKK.out; omega, by first | rfl | rw [uk.out], hf, by first | rfl | trivial⟩
                case measure => (try rw [uk.out]); have := HKK.out; simp [intOf]; omega
          · have b1 : ((z.length : Int) != (n0 : Int)) = true := by simp; omega
            have hf : Hid (bwrong prior (nums l) = 1) := by
              have e : bwone n0 (p, z) = 1 := by unfold bwone; rw [if_neg hpb, if_pos hln]
              unfold Hid; rw [HST.out, e]; rfl
            clear hpb hln
            go_wp2_with fail
            go_quiet (fail)
            go_wp2_with fail
            go_ret
            exact ⟨by rw [hf.out]; rfl, m + nq, by first | rfl | rw [World.drewN_drewN]⟩
      · obtain rfl : k = prior.length := by omega
        have hf : Hid (bwrong prior (nums l) = 0) := by
          have h := hg.out
          rw [List.drop_eq_nil_of_le (by simp; omega)] at h
          exact h.symm
        clear hg
        go_wp2_with fail
        go_ret
        exact ⟨by rw [hf.out]; rfl, m, rfl⟩
  · have b0 : ((prior.length : Int) != (l.length : Int)) = true := by simp; omega
    have hf : bwrong prior (nums l) = 1 := by unfold bwrong; rw [if_pos (by omega)]
    rw [hf]
    clear hf hp hl en h1
    go_enter Try.func39, Try.ntmps39
    go_wp2_with fail
    go_ret
    exact ⟨rfl, 0, rfl⟩
end Go.Proofs.Ytaehehoeidnidaa
