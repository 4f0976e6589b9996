/- Period and Jump of package lfsr, their references, and the law LfsrJumps, walked. No condition. -/
import Derived.Test.YtakjcodfcoaadaaLfsrJ
namespace Go.Proofs.Ytakjcodfcoaadaa
open Go.ChangeShapes Go.WideShapes Go.ChangeAt Go.RowKit

/-- Q is behind how many steps the state comes again, for the first time. -/
def IsPeriod (n t s Q : Nat) : Prop := 1 ≤ Q ∧ Q ≤ 2 ^ n ∧ lit_ n t s Q = s ∧ ∀ i, 1 ≤ i → i < Q → lit_ n t s i ≠ s

theorem ne_cast {a b : Nat} (h : a ≠ b) : ((a : Int) != (b : Int)) = true := by simp; omega

set_option maxHeartbeats 400000 in
theorem nperiod_any (k t s Q : Nat) (w : World) (hk : k < 20) (hs : s < 2 ^ (k + 1)) (hQ : IsPeriod (k + 1) t s Q) :
    Calls Try.prog 32 #[.int .i64 ((k + 1 : Nat) : Int), .int .u32 t, .int .u32 s] w fun e w' => e = .returned (.int .i64 Q) ∧ w = w' := by
  have hp := pow_le20 hk
  have hs2 : s < 1048576 := by omega
  obtain ⟨q1, q2, q3, q4⟩ := hQ
  have q5 : Q ≤ 1048576 := by omega
  have Q3 := Lib.hid q3
  have Q4 := Lib.hid q4
  have HS := Lib.hid hs
  clear q3 q4 q2 hs hp
  have hL := HS.out
  go_enter Try.func32, Try.ntmps32
  go_wp2_with (first | (go_at_call 29; refine (nstep_any k t _ _ hk hL).mono ?_; rintro e w' ⟨rfl, rfl⟩))
  clear hL
  go_loop [7, 8] (fun m x => ∃ j : Nat, 1 ≤ j ∧ j ≤ Q ∧ m = .int .i64 j ∧ x = .int .u32 (lit_ (k + 1) t s j : Nat)) (fun m _ => Q - (intOf m).toNat)
  case atStart => exact ⟨1, Nat.le_refl _, q1, rfl, rfl⟩
  case round =>
    obtain ⟨j, hj1, hj2, rfl, rfl⟩ := hrel
    by_cases hlt : j < Q
    · have hne := ne_cast (Q4.out j hj1 hlt)
      have hL := lit_lt (k + 1) t s (by omega) HS.out j
      go_wp2_with (first | (go_at_call 29; refine (nstep_any k t _ _ hk hL).mono ?_; rintro e w' ⟨rfl, rfl⟩))
      go_round
      case rel => exact ⟨j + 1, by omega, by omega, by go_num, rfl⟩
      case measure => simp [intOf]; omega
    · have hjq : Hid (j = Q) := by unfold Hid; omega
      have hne : (((lit_ (k + 1) t s j : Nat) : Int) != (s : Int)) = false := by rw [hjq.out, Q3.out]; simp
      go_wp2
      go_ret
      exact ⟨by rw [hjq.out]; rfl, rfl⟩

theorem lperiod_bad (n : Int) (t s : Nat) (w : World) (h : okB n t s = false) :
    Calls Try.prog 30 #[.int .i64 n, .int .u32 t, .int .u32 s] w fun e w' => e = .returned (.tuple #[.int .i64 0, .int .i64 1]) ∧ w = w' := by
  go_enter Try.func30, Try.ntmps30
  go_wp2_with (first | (go_at_call 24; refine (lstep_bad _ _ _ _ h).mono ?_; rintro e w' ⟨rfl, rfl⟩))
  go_ret2
  exact ⟨rfl, rfl⟩

set_option maxHeartbeats 400000 in
theorem lperiod_ok (k t s Q : Nat) (w : World) (hk : k < 20) (h0 : okB ((k + 1 : Nat) : Int) t 0 = true) (hs : s < 2 ^ (k + 1)) (ht : t < 2 ^ (k + 1)) (hQ : IsPeriod (k + 1) t s Q) :
    Calls Try.prog 30 #[.int .i64 ((k + 1 : Nat) : Int), .int .u32 t, .int .u32 s] w fun e w' => e = .returned (.tuple #[.int .i64 Q, .int .i64 0]) ∧ ∃ n, w' = w.drewN n := by
  have hp := pow_le20 hk
  have hs2 : s < 1048576 := by omega
  obtain ⟨q1, q2, q3, q4⟩ := hQ
  have q5 : Q ≤ 1048576 := by omega
  have Q3 := Lib.hid q3
  have Q4 := Lib.hid q4
  have HS := Lib.hid hs
  have HT := Lib.hid ht
  clear q3 q4 q2 hs hp ht
  go_enter Try.func30, Try.ntmps30
  go_wp2_with (first | (go_at_call 24; refine (lstep_ok k t s _ hk h0 HS.out HT.out).mono ?_; rintro e w1 ⟨rfl, n1, rfl⟩))
  go_loopw [8, 10] (fun x m wr => ∃ j : Nat, 1 ≤ j ∧ j ≤ Q ∧ m = .int .i64 j ∧ x = .int .u32 (lit_ (k + 1) t s j : Nat) ∧ ∃ n, wr = w.drewN n) (fun _ m _ => Q - (intOf m).toNat)
  case atStart => exact ⟨1, Nat.le_refl _, q1, rfl, rfl, n1, rfl⟩
  case round =>
    obtain ⟨j, hj1, hj2, rfl, rfl, n2, rfl⟩ := hrel
    by_cases hlt : j < Q
    · have hne := ne_cast (Q4.out j hj1 hlt)
      have hL := Lib.hid (lit_lt (k + 1) t s (by omega) HS.out j)
      go_wp2_with (first | (go_at_call 24; refine (lstep_ok k t _ _ hk h0 hL.out HT.out).mono ?_; rintro e w3 ⟨rfl, n3, rfl⟩))
      go_roundw
      case rel => exact ⟨j + 1, by omega, by omega, by go_num, rfl, _, rfl⟩
      case measure => simp [intOf]; omega
    · have hjq : Hid (j = Q) := by unfold Hid; omega
      have hne : (((lit_ (k + 1) t s j : Nat) : Int) != (s : Int)) = false := by rw [hjq.out, Q3.out]; simp
      go_wp2
      go_ret2
      exact ⟨by rw [hjq.out]; rfl, _, rfl⟩

theorem ljump_bad (n by_ : Int) (t s : Nat) (w : World) (h : okB n t s = false) :
    Calls Try.prog 31 #[.int .i64 n, .int .u32 t, .int .u32 s, .int .i64 by_] w fun e w' => e = .returned (.tuple #[.int .u32 0, .int .i64 1]) ∧ w = w' := by
  by_cases h0 : okB n t 0 = true
  · obtain ⟨k, rfl, hk, hs⟩ := okB_bad h h0
    have z := neq_of_eq (div_pow_zero s (k + 1))
    rw [decide_eq_false hs] at z
    clear h
    go_enter Try.func31, Try.ntmps31
    go_wp2_with ((go_at_call 27; refine (lright_any _ _ _).mono ?_; rintro e w' ⟨rfl, rfl⟩))
    go_ret2
    exact ⟨rfl, rfl⟩
  · have h0' : okB n t 0 = false := by simpa using h0
    clear h h0
    go_enter Try.func31, Try.ntmps31
    go_wp2_with ((go_at_call 27; refine (lright_any _ _ _).mono ?_; rintro e w' ⟨rfl, rfl⟩))
    go_ret2
    exact ⟨rfl, rfl⟩
theorem ljump_range (k : Nat) (m : Int) (t s : Nat) (w : World) (hk : k < 20) (h0 : okB ((k + 1 : Nat) : Int) t 0 = true) (hs : s < 2 ^ (k + 1)) (hm : m < 0 ∨ 1099511627776 < m) :
    Calls Try.prog 31 #[.int .i64 ((k + 1 : Nat) : Int), .int .u32 t, .int .u32 s, .int .i64 m] w fun e w' => e = .returned (.tuple #[.int .u32 0, .int .i64 2]) ∧ w = w' := by
  have z := neq_of_eq (div_pow_zero s (k + 1))
  rw [decide_eq_true hs] at z
  have h0' : okB ((k : Int) + 1) t 0 = true := h0
  by_cases h1 : m < 0
  · clear hm
    go_enter Try.func31, Try.ntmps31
    go_wp2_with ((go_at_call 27; refine (lright_any _ _ _).mono ?_; rintro e w' ⟨rfl, rfl⟩))
    go_ret2
    exact ⟨rfl, rfl⟩
  · have h2 : 1099511627776 < m := by omega
    clear hm
    go_enter Try.func31, Try.ntmps31
    go_wp2_with ((go_at_call 27; refine (lright_any _ _ _).mono ?_; rintro e w' ⟨rfl, rfl⟩))
    go_ret2
    exact ⟨rfl, rfl⟩

theorem comb_succ (c : Nat → Nat) (s k : Nat) : comb c s (k + 1) = if s / 2 ^ k % 2 = 1 then comb c s k ^^^ c k else comb c s k := rfl
theorem comb_lt (c : Nat → Nat) (s n k : Nat) (h : ∀ i, i < k → c i < 2 ^ n) : comb c s k < 2 ^ n := by
  induction k with
  | zero => exact Nat.pow_pos (by decide)
  | succ k ih =>
    rw [comb_succ]
    have := ih fun i hi => h i (by omega)
    split
    · exact Nat.xor_lt_two_pow this (h k (by omega))
    · exact this
theorem bit_and_form (s j : Nat) (hs : s < 1048576) : (bits .and .u32 ((s : Int) / 2 ^ j) 1 == 1) = decide (s / 2 ^ j % 2 = 1) := by
  have h1 : s / 2 ^ j ≤ s := Nat.div_le_self _ _
  have h2 : bits .and .u32 ((s : Int) / 2 ^ j) 1 = ((s / 2 ^ j % 2 : Nat) : Int) := by
    rw [cast_div_pow]
    have := u32_and_nat (s / 2 ^ j) 1 (by omega) (by omega)
    rw [nat_mask1] at this
    exact this
  rw [h2]
  generalize s / 2 ^ j % 2 = q
  rw [Bool.eq_iff_iff]
  simp
  omega

set_option maxHeartbeats 400000 in
theorem all_any (k g : Nat) (c : Nat → Nat) (s : Nat) (w : World) (hk : k < 20) (hs : s < 2 ^ (k + 1)) (hc : ∀ i, i < k + 1 → c i < 2 ^ (k + 1)) (hrow : w.rowIs g 49 (k + 1) (fun i => .int .u32 (c i : Nat))) :
    Calls Try.prog 46 #[.slice (some ⟨g, 0, none⟩) (k + 1) (k + 1), .int .u32 s] w fun e w' => e = .returned (.int .u32 (comb c s (k + 1) : Nat)) ∧ w = w' := by
  have hp := pow_le20 hk
  have hs2 : s < 1048576 := by omega
  clear hs
  have HC := Lib.hid hc
  clear hc
  go_enter Try.func46, Try.ntmps46
  go_wp2
  go_loop [5, 10] (fun o i => ∃ j : Nat, j ≤ k + 1 ∧ i = .int .i64 j ∧ o = .int .u32 (comb c s j : Nat)) (fun _ i => k + 1 - (intOf i).toNat)
  case atStart => exact ⟨0, Nat.zero_le _, rfl, rfl⟩
  case round =>
    obtain ⟨j, hj, rfl, rfl⟩ := hrel
    by_cases hlt : j < k + 1
    · have hcell := hrow.cell hlt
      have n1 : 0 ≤ (s : Int) / 2 ^ j := by rw [cast_div_pow]; exact Int.natCast_nonneg _
      have b1 := bit_and_form s j hs2
      have hcs := Lib.hid (comb_succ c s j)
      have l1 := comb_lt c s (k + 1) j fun i hi => HC.out i (by omega)
      have l2 := HC.out j hlt
      have hx := u32_xor_nat (comb c s j) (c j) (by omega) (by omega)
      by_cases c1 : s / 2 ^ j % 2 = 1
      · rw [decide_eq_true c1] at b1
        have C1 := Lib.hid c1
        clear c1
        go_wp2
        go_round
        case rel => exact ⟨j + 1, by omega, by go_num, by rw [hcs.out, if_pos C1.out]⟩
        case measure => simp [intOf]; omega
      · rw [decide_eq_false c1] at b1
        have C1 := Lib.hid c1
        clear c1
        go_wp2
        go_round
        case rel => exact ⟨j + 1, by omega, by go_num, by rw [hcs.out, if_neg C1.out]⟩
        case measure => simp [intOf]; omega
    · have hje : Hid (j = k + 1) := by unfold Hid; omega
      go_wp2
      go_ret
      exact ⟨by rw [hje.out]; rfl, rfl⟩
end Go.Proofs.Ytakjcodfcoaadaa
