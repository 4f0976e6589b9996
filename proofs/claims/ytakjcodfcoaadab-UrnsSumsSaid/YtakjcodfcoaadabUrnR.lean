/- The law UrnsSums walked. No condition. -/
import Derived.Test.YtakjcodfcoaadabUrnS
import Derived.Test.YtakjcodfcoaadabUrnT
namespace Go.Proofs.Ytakjcodfcoaadab
open Go.ChangeShapes Go.WideShapes Go.ChangeAt Go.RowKit
set_option linter.unusedVariables false

theorem i64_of_wf {n : Int} (h : (Lit.int .i64 n).wf = true) : -9223372036854775808 ≤ n ∧ n ≤ 9223372036854775807 := by
  simp [Lit.wf, IntKind.min, IntKind.max, IntKind.bits, IntKind.signed] at h; omega
set_option maxRecDepth 20000 in
set_option maxHeartbeats 2000000 in
theorem UrnsSums_a (n k : Int) (w : World) (hn : n ≤ 9223372036854775807) (hk : k ≤ 9223372036854775807) (g0 : n < 0) : Calls Try.prog 7 #[.int .i64 n, .int .i64 k] w fun e w' => e = .returned (.bool true) ∧ Below w.heap.size w w' := by
  have HA : Hid (usums n k = (0, 2)) := if_pos (by omega)
  have HS : Hid (uspread n k = (0, 2)) := if_pos (by omega)
  have B1 := Lib.hid hn
  have B2 := Lib.hid hk
  have d0 : decide (n < 0) = true := decide_eq_true (by omega)
  clear hn hk g0
  go_enter Try.func7, Try.ntmps7
  go_wp2_with fail
  refine (sums_any _ _ _).mono ?_
  rintro e w1 ⟨rfl, hb⟩
  have HB := Lib.hid hb
  clear hb
  rw [HA.out]
  go_wp2_with fail
  refine (spread_any _ _ _ B1.out B2.out).mono ?_
  rintro e w2 ⟨rfl, hb⟩
  have HB2 := Lib.hid (HB.out.trans (hb.mono HB.out.size))
  clear hb
  rw [HS.out]
  go_wp2_with fail
  go_ret
  exact ⟨rfl, HB2.out⟩
set_option maxRecDepth 20000 in
set_option maxHeartbeats 2000000 in
theorem UrnsSums_b (n k : Int) (w : World) (hn : n ≤ 9223372036854775807) (hk : k ≤ 9223372036854775807) (g0 : 0 ≤ n) (g1 : k < 0) : Calls Try.prog 7 #[.int .i64 n, .int .i64 k] w fun e w' => e = .returned (.bool true) ∧ Below w.heap.size w w' := by
  have HA : Hid (usums n k = (0, 2)) := if_pos (by omega)
  have HS : Hid (uspread n k = (0, 2)) := if_pos (by omega)
  have B1 := Lib.hid hn
  have B2 := Lib.hid hk
  have d0 : decide (n < 0) = false := decide_eq_false (by omega)
  have d1 : decide (k < 0) = true := decide_eq_true (by omega)
  clear hn hk g0 g1
  go_enter Try.func7, Try.ntmps7
  go_wp2_with fail
  refine (sums_any _ _ _).mono ?_
  rintro e w1 ⟨rfl, hb⟩
  have HB := Lib.hid hb
  clear hb
  rw [HA.out]
  go_wp2_with fail
  refine (spread_any _ _ _ B1.out B2.out).mono ?_
  rintro e w2 ⟨rfl, hb⟩
  have HB2 := Lib.hid (HB.out.trans (hb.mono HB.out.size))
  clear hb
  rw [HS.out]
  go_wp2_with fail
  go_ret
  exact ⟨rfl, HB2.out⟩
set_option maxRecDepth 20000 in
set_option maxHeartbeats 2000000 in
theorem UrnsSums_c (n k : Int) (w : World) (hn : n ≤ 9223372036854775807) (hk : k ≤ 9223372036854775807) (g0 : 0 ≤ n) (g1 : 0 ≤ k) (g2 : 60 < n) : Calls Try.prog 7 #[.int .i64 n, .int .i64 k] w fun e w' => e = .returned (.bool true) ∧ Below w.heap.size w w' := by
  have HA : Hid (usums n k = (0, 2)) := if_pos (by omega)
  have HS : Hid (uspread n k = (0, 2)) := if_pos (by omega)
  have B1 := Lib.hid hn
  have B2 := Lib.hid hk
  have d0 : decide (n < 0) = false := decide_eq_false (by omega)
  have d1 : decide (k < 0) = false := decide_eq_false (by omega)
  have d2 : decide (60 < n) = true := decide_eq_true (by omega)
  clear hn hk g0 g1 g2
  go_enter Try.func7, Try.ntmps7
  go_wp2_with fail
  refine (sums_any _ _ _).mono ?_
  rintro e w1 ⟨rfl, hb⟩
  have HB := Lib.hid hb
  clear hb
  rw [HA.out]
  go_wp2_with fail
  refine (spread_any _ _ _ B1.out B2.out).mono ?_
  rintro e w2 ⟨rfl, hb⟩
  have HB2 := Lib.hid (HB.out.trans (hb.mono HB.out.size))
  clear hb
  rw [HS.out]
  go_wp2_with fail
  go_ret
  exact ⟨rfl, HB2.out⟩
set_option maxRecDepth 20000 in
set_option maxHeartbeats 2000000 in
theorem UrnsSums_d (n k : Int) (w : World) (hn : n ≤ 9223372036854775807) (hk : k ≤ 9223372036854775807) (g0 : 0 ≤ n) (g1 : 0 ≤ k) (g2 : n ≤ 60) (g3 : 60 < k) : Calls Try.prog 7 #[.int .i64 n, .int .i64 k] w fun e w' => e = .returned (.bool true) ∧ Below w.heap.size w w' := by
  have HA : Hid (usums n k = (0, 2)) := if_pos (by omega)
  have HS : Hid (uspread n k = (0, 2)) := if_pos (by omega)
  have B1 := Lib.hid hn
  have B2 := Lib.hid hk
  have d0 : decide (n < 0) = false := decide_eq_false (by omega)
  have d1 : decide (k < 0) = false := decide_eq_false (by omega)
  have d2 : decide (60 < n) = false := decide_eq_false (by omega)
  have d3 : decide (60 < k) = true := decide_eq_true (by omega)
  clear hn hk g0 g1 g2 g3
  go_enter Try.func7, Try.ntmps7
  go_wp2_with fail
  refine (sums_any _ _ _).mono ?_
  rintro e w1 ⟨rfl, hb⟩
  have HB := Lib.hid hb
  clear hb
  rw [HA.out]
  go_wp2_with fail
  refine (spread_any _ _ _ B1.out B2.out).mono ?_
  rintro e w2 ⟨rfl, hb⟩
  have HB2 := Lib.hid (HB.out.trans (hb.mono HB.out.size))
  clear hb
  rw [HS.out]
  go_wp2_with fail
  go_ret
  exact ⟨rfl, HB2.out⟩
set_option maxRecDepth 20000 in
set_option maxHeartbeats 2000000 in
theorem UrnsSums_e (N K : Nat) (w : World) (hN : N ≤ 60) (hK : K ≤ 60) (hl : 60 < N + K) : Calls Try.prog 7 #[.int .i64 N, .int .i64 K] w fun e w' => e = .returned (.bool true) ∧ Below w.heap.size w w' := by
  have hmm := @run_makeMap Try.prog
  have HA : Hid (usums N K = (((vs K N N : Nat) : Int), 0)) := if_neg (by omega)
  have HS : Hid (uspread N K = (0, 2)) := if_pos (by omega)
  have B1 : Hid ((N : Int) ≤ 9223372036854775807) := by unfold Hid; omega
  have B2 : Hid ((K : Int) ≤ 9223372036854775807) := by unfold Hid; omega
  have d0 : decide (60 < (N : Int) + (K : Int)) = true := decide_eq_true (by omega)
  go_enter Try.func7, Try.ntmps7
  go_wp2_with fail
  refine (sums_any _ _ _).mono ?_
  rintro e w1 ⟨rfl, hb⟩
  have HB := Lib.hid hb
  clear hb
  rw [HA.out]
  go_wp2_with fail
  refine (spread_any _ _ _ B1.out B2.out).mono ?_
  rintro e w2 ⟨rfl, hb⟩
  have HB2 := Lib.hid (HB.out.trans (hb.mono HB.out.size))
  clear hb
  rw [HS.out]
  go_wp2_with fail
  have hv := vsums_any K N N 0 w2.heap.size _ (Memo.made w2 vgood) (by omega) (by omega) (by omega) (by have : 2 ^ N ≤ 1152921504606846976 := Nat.pow_le_pow_right (n := 2) (by decide) (show N ≤ 60 by omega); omega)
  refine hv.mono ?_
  rintro e w3 ⟨rfl, m3, _, _, hg⟩
  have HB3 : Hid (Below w.heap.size w w3) := ((HB2.out.alloc HB2.out.size (.map #[] 0)).grown hg (by have := HB2.out.size; simp; omega) (fun k hk => by injection hk with hk; have := HB2.out.size; omega))
  clear hg hv hmm
  generalize vs K N N = v at *
  go_wp2_with fail
  go_ret
  exact ⟨rfl, HB3.out⟩
set_option maxRecDepth 20000 in
set_option maxHeartbeats 2000000 in
theorem UrnsSums_f (N K : Nat) (w : World) (hN : N ≤ 60) (hK : K ≤ 60) (hl : N + K ≤ 60 ∧ K = 0 ∧ N = 0) : Calls Try.prog 7 #[.int .i64 N, .int .i64 K] w fun e w' => e = .returned (.bool true) ∧ Below w.heap.size w w' := by
  have hmm := @run_makeMap Try.prog
  have HA : Hid (usums N K = (((vs K N N : Nat) : Int), 0)) := if_neg (by omega)
  have hu : uspread N K = if (K : Int) = 0 then (if (N : Int) = 0 then 1 else 0, 0) else (ebin (N + K - 1) N, 0) := if_neg (by omega)
  have HS : Hid (uspread N K = (1, 0)) := by unfold Hid; rw [hu, if_pos (by omega), if_pos (by omega)]
  clear hu
  have B1 : Hid ((N : Int) ≤ 9223372036854775807) := by unfold Hid; omega
  have B2 : Hid ((K : Int) ≤ 9223372036854775807) := by unfold Hid; omega
  have d0 : ((N : Int) == 0) = true := by simp; omega
  have d1 : ((K : Int) == 0) = true := by simp; omega
  have e0 : decide (60 < (N : Int) + (K : Int)) = false := decide_eq_false (by omega)
  have hl0 := hl.1
  clear hl
  go_enter Try.func7, Try.ntmps7
  go_wp2_with fail
  refine (sums_any _ _ _).mono ?_
  rintro e w1 ⟨rfl, hb⟩
  have HB := Lib.hid hb
  clear hb
  rw [HA.out]
  go_wp2_with fail
  refine (spread_any _ _ _ B1.out B2.out).mono ?_
  rintro e w2 ⟨rfl, hb⟩
  have HB2 := Lib.hid (HB.out.trans (hb.mono HB.out.size))
  clear hb
  rw [HS.out]
  go_wp2_with fail
  have hv := vsums_any K N N 0 w2.heap.size _ (Memo.made w2 vgood) (by omega) (by omega) (by omega) (by have : 2 ^ N ≤ 1152921504606846976 := Nat.pow_le_pow_right (n := 2) (by decide) (show N ≤ 60 by omega); omega)
  refine hv.mono ?_
  rintro e w3 ⟨rfl, m3, _, _, hg⟩
  have HB3 : Hid (Below w.heap.size w w3) := ((HB2.out.alloc HB2.out.size (.map #[] 0)).grown hg (by have := HB2.out.size; simp; omega) (fun k hk => by injection hk with hk; have := HB2.out.size; omega))
  clear hg hv hmm
  generalize vs K N N = v at *
  go_wp2_with fail
  refine (eof_any _ _ _ (by omega)).mono ?_
  rintro e w4 ⟨rfl, hb⟩
  have HB4 := Lib.hid (HB3.out.trans (hb.mono HB3.out.size))
  clear hb
  go_wp2_with fail
  go_ret
  exact ⟨rfl, HB4.out⟩
set_option maxRecDepth 20000 in
set_option maxHeartbeats 2000000 in
theorem UrnsSums_g (N K : Nat) (w : World) (hN : N ≤ 60) (hK : K ≤ 60) (hl : N + K ≤ 60 ∧ K = 0 ∧ 0 < N) : Calls Try.prog 7 #[.int .i64 N, .int .i64 K] w fun e w' => e = .returned (.bool true) ∧ Below w.heap.size w w' := by
  have hmm := @run_makeMap Try.prog
  have HA : Hid (usums N K = (((vs K N N : Nat) : Int), 0)) := if_neg (by omega)
  have hu : uspread N K = if (K : Int) = 0 then (if (N : Int) = 0 then 1 else 0, 0) else (ebin (N + K - 1) N, 0) := if_neg (by omega)
  have HS : Hid (uspread N K = (0, 0)) := by unfold Hid; rw [hu, if_pos (by omega), if_neg (by omega)]
  clear hu
  have B1 : Hid ((N : Int) ≤ 9223372036854775807) := by unfold Hid; omega
  have B2 : Hid ((K : Int) ≤ 9223372036854775807) := by unfold Hid; omega
  have d0 : ((N : Int) == 0) = false := by simp; omega
  have d1 : ((K : Int) == 0) = true := by simp; omega
  have e0 : decide (60 < (N : Int) + (K : Int)) = false := decide_eq_false (by omega)
  have hl0 := hl.1
  clear hl
  go_enter Try.func7, Try.ntmps7
  go_wp2_with fail
  refine (sums_any _ _ _).mono ?_
  rintro e w1 ⟨rfl, hb⟩
  have HB := Lib.hid hb
  clear hb
  rw [HA.out]
  go_wp2_with fail
  refine (spread_any _ _ _ B1.out B2.out).mono ?_
  rintro e w2 ⟨rfl, hb⟩
  have HB2 := Lib.hid (HB.out.trans (hb.mono HB.out.size))
  clear hb
  rw [HS.out]
  go_wp2_with fail
  have hv := vsums_any K N N 0 w2.heap.size _ (Memo.made w2 vgood) (by omega) (by omega) (by omega) (by have : 2 ^ N ≤ 1152921504606846976 := Nat.pow_le_pow_right (n := 2) (by decide) (show N ≤ 60 by omega); omega)
  refine hv.mono ?_
  rintro e w3 ⟨rfl, m3, _, _, hg⟩
  have HB3 : Hid (Below w.heap.size w w3) := ((HB2.out.alloc HB2.out.size (.map #[] 0)).grown hg (by have := HB2.out.size; simp; omega) (fun k hk => by injection hk with hk; have := HB2.out.size; omega))
  clear hg hv hmm
  generalize vs K N N = v at *
  go_wp2_with fail
  refine (eof_any _ _ _ (by omega)).mono ?_
  rintro e w4 ⟨rfl, hb⟩
  have HB4 := Lib.hid (HB3.out.trans (hb.mono HB3.out.size))
  clear hb
  go_wp2_with fail
  go_ret
  exact ⟨rfl, HB4.out⟩
set_option maxRecDepth 20000 in
set_option maxHeartbeats 2000000 in
theorem UrnsSums_h (N K : Nat) (w : World) (hN : N ≤ 60) (hK : K ≤ 60) (hl : N + K ≤ 60 ∧ 0 < K) : Calls Try.prog 7 #[.int .i64 N, .int .i64 K] w fun e w' => e = .returned (.bool true) ∧ Below w.heap.size w w' := by
  have hmm := @run_makeMap Try.prog
  have HA : Hid (usums N K = (((vs K N N : Nat) : Int), 0)) := if_neg (by omega)
  have hu : uspread N K = if (K : Int) = 0 then (if (N : Int) = 0 then 1 else 0, 0) else (ebin (N + K - 1) N, 0) := if_neg (by omega)
  have HS : Hid (uspread N K = (ebin ((N : Int) + (K : Int) - 1) N, 0)) := by unfold Hid; rw [hu, if_neg (by omega)]
  clear hu
  have B1 : Hid ((N : Int) ≤ 9223372036854775807) := by unfold Hid; omega
  have B2 : Hid ((K : Int) ≤ 9223372036854775807) := by unfold Hid; omega
  have d0 : ((K : Int) == 0) = false := by simp; omega
  have e0 : decide (60 < (N : Int) + (K : Int)) = false := decide_eq_false (by omega)
  go_enter Try.func7, Try.ntmps7
  go_wp2_with fail
  refine (sums_any _ _ _).mono ?_
  rintro e w1 ⟨rfl, hb⟩
  have HB := Lib.hid hb
  clear hb
  rw [HA.out]
  go_wp2_with fail
  refine (spread_any _ _ _ B1.out B2.out).mono ?_
  rintro e w2 ⟨rfl, hb⟩
  have HB2 := Lib.hid (HB.out.trans (hb.mono HB.out.size))
  clear hb
  rw [HS.out]
  go_wp2_with fail
  have hv := vsums_any K N N 0 w2.heap.size _ (Memo.made w2 vgood) (by omega) (by omega) (by omega) (by have : 2 ^ N ≤ 1152921504606846976 := Nat.pow_le_pow_right (n := 2) (by decide) (show N ≤ 60 by omega); omega)
  refine hv.mono ?_
  rintro e w3 ⟨rfl, m3, _, _, hg⟩
  have HB3 : Hid (Below w.heap.size w w3) := ((HB2.out.alloc HB2.out.size (.map #[] 0)).grown hg (by have := HB2.out.size; simp; omega) (fun k hk => by injection hk with hk; have := HB2.out.size; omega))
  clear hg hv hmm
  generalize vs K N N = v at *
  go_wp2_with fail
  refine (eof_any _ _ _ (by omega)).mono ?_
  rintro e w4 ⟨rfl, hb⟩
  have HB4 := Lib.hid (HB3.out.trans (hb.mono HB3.out.size))
  clear hb
  go_wp2_with fail
  go_ret
  exact ⟨rfl, HB4.out⟩
theorem UrnsSums_walk (n k : Int) (w : World) (hn : (Lit.int .i64 n).wf = true) (hk : (Lit.int .i64 k).wf = true) : Calls Try.prog 7 #[.int .i64 n, .int .i64 k] w fun e w' => e = .returned (.bool true) ∧ Below w.heap.size w w' := by
  obtain ⟨_, hn2⟩ := i64_of_wf hn
  obtain ⟨_, hk2⟩ := i64_of_wf hk
  by_cases h1 : n < 0
  · exact UrnsSums_a n k w hn2 hk2 h1
  by_cases h2 : k < 0
  · exact UrnsSums_b n k w hn2 hk2 (by omega) h2
  by_cases h3 : 60 < n
  · exact UrnsSums_c n k w hn2 hk2 (by omega) (by omega) h3
  by_cases h4 : 60 < k
  · exact UrnsSums_d n k w hn2 hk2 (by omega) (by omega) (by omega) h4
  obtain ⟨N, rfl⟩ : ∃ N : Nat, n = N := ⟨n.toNat, by omega⟩
  obtain ⟨K, rfl⟩ : ∃ K : Nat, k = K := ⟨k.toNat, by omega⟩
  by_cases h5 : 60 < N + K
  · exact UrnsSums_e N K w (by omega) (by omega) h5
  by_cases h6 : K = 0
  · by_cases h7 : N = 0
    · exact UrnsSums_f N K w (by omega) (by omega) (by omega)
    · exact UrnsSums_g N K w (by omega) (by omega) (by omega)
  · exact UrnsSums_h N K w (by omega) (by omega) (by omega)
end Go.Proofs.Ytakjcodfcoaadab
