/- Package ruin: row, walked. No condition but that the numbers are small. -/
import Derived.Test.YtmibifmabkaakaaDoorRuiB
namespace Go.Proofs.YtmibifmabkaakaaDoor
open Go.ChangeShapes Go.WideShapes Go.ChangeAt Go.RowKit
set_option linter.unusedVariables false

/-- The first k of n terms: powers of a and of b, together of degree n - 1. -/
def rsum (a b n : Nat) : Nat → Nat
  | 0 => 0
  | k + 1 => rsum a b n k + a ^ (n - 1 - k) * b ^ k
theorem term_le {a b n k : Nat} (h1 : 1 ≤ a) (h9 : a ≤ 9) (g1 : 1 ≤ b) (g9 : b ≤ 9) (hk : k < n) (hn : n ≤ 16) (i : Nat) (hi : i ≤ k) : a ^ (n - 1 - k) * b ^ i ≤ 205891132094649 := by
  have e1 : a ^ (n - 1 - k) ≤ 9 ^ (n - 1 - k) := Nat.pow_le_pow_left h9 _
  have e2 : b ^ i ≤ 9 ^ i := Nat.pow_le_pow_left g9 _
  have e3 : a ^ (n - 1 - k) * b ^ i ≤ 9 ^ (n - 1 - k) * 9 ^ i := Nat.mul_le_mul e1 e2
  rw [← Nat.pow_add] at e3
  have e4 : 9 ^ (n - 1 - k + i) ≤ 9 ^ 15 := Nat.pow_le_pow_right (by decide) (by omega)
  have e5 : (9 : Nat) ^ 15 = 205891132094649 := by decide
  omega
theorem rsum_le {a b n : Nat} (h1 : 1 ≤ a) (h9 : a ≤ 9) (g1 : 1 ≤ b) (g9 : b ≤ 9) (hn : n ≤ 16) (k : Nat) (hk : k ≤ n) : rsum a b n k ≤ 205891132094649 * k := by
  induction k with
  | zero => simp [rsum]
  | succ k ih =>
    have := term_le h1 h9 g1 g9 (k := k) (by omega) hn k (Nat.le_refl _)
    have := ih (by omega)
    simp only [rsum]; omega
set_option maxRecDepth 20000 in
set_option maxHeartbeats 1000000 in
theorem row_any (a b n : Nat) (w : World) (h1 : 1 ≤ a) (h9 : a ≤ 9) (g1 : 1 ≤ b) (g9 : b ≤ 9) (hn : n ≤ 16) :
    Calls Tryd.prog 64 #[.int .i64 a, .int .i64 b, .int .i64 n] w fun e w' => e = .returned (.int .i64 (rsum a b n n : Nat)) ∧ w' = w := by
  have HS := Lib.hid (fun k (hk : k ≤ n) => rsum_le h1 h9 g1 g9 hn k hk)
  have HT := Lib.hid (fun k (hk : k < n) i hi => term_le h1 h9 g1 g9 hk hn i hi)
  have HP := Lib.hid (fun k (hk : k ≤ n) => pow_small h1 h9 hk hn)
  clear h1 h9 g1 g9
  go_enter Tryd.func64, Tryd.ntmps64
  go_wp2_with fail
  --LOOK1
  go_loop [7, 11] (fun s7 s11 => ∃ k : Nat, k ≤ n ∧ s7 = .int .i64 (rsum a b n k : Nat) ∧ s11 = .int .i64 k) (fun _ s11 => n - (intOf s11).toNat)
  case atStart => exact ⟨0, Nat.zero_le _, rfl, rfl⟩
  case round =>
    obtain ⟨k, hk, rfl, rfl⟩ := hrel
    by_cases hlt : k < n
    · have i1 : (k : Int) < (n : Int) := by omega
      obtain ⟨M, hM⟩ : ∃ M, M = n - 1 - k := ⟨_, rfl⟩
      have iM : (n : Int) - 1 - (k : Int) = (M : Int) := by omega
      have HM := Lib.hid hM
      have HA := Lib.hid (fun i (hi : i < M) => (Int.natCast_mul (a ^ i) a).symm)
      have hA2 : Hid (∀ i, i ≤ M → a ^ i ≤ 1853020188851841) := fun i hi => HP.out i (by omega)
      have hB2 : Hid (∀ i, i ≤ k → a ^ M * b ^ i ≤ 205891132094649) := fun i hi => by have := HT.out k hlt i hi; rw [HM.out]; exact this
      have hR2 : Hid (rsum a b n k ≤ 3294258113514384) := by have := HS.out k (by omega); unfold Hid; omega
      have hR3 : Hid (rsum a b n (k + 1) = rsum a b n k + a ^ M * b ^ k) := by unfold Hid; rw [HM.out]; rfl
      clear hM
      go_wp2_with fail
      go_loop [9, 18] (fun s9 s18 => ∃ i P : Nat, i ≤ M ∧ Hid (P = a ^ i) ∧ s9 = .int .i64 P ∧ s18 = .int .i64 i) (fun _ s18 => M - (intOf s18).toNat)
      case atStart => exact ⟨0, 1, Nat.zero_le _, rfl, rfl, rfl⟩
      case round =>
        obtain ⟨i, P, hi, hP, rfl, rfl⟩ := hrel
        by_cases hli : i < M
        · have j1 : (i : Int) < (M : Int) := by omega
          obtain ⟨Q, hQ⟩ : ∃ Q, Q = a ^ (i + 1) := ⟨_, rfl⟩
          have q1 := hA2.out (i + 1) (by omega)
          rw [← hQ] at q1
          have hst : Hid ((P : Int) * (a : Int) = (Q : Int)) := by unfold Hid; rw [hQ, Nat.pow_succ, ← hP.out]; exact (Int.natCast_mul _ _).symm
          have HU : Hid (wrap64 (Q : Int) = (Q : Int)) := by unfold Hid wrap64; omega
          have HQ := Lib.hid hQ
          clear hQ q1 hP
          go_wp2_with fail
          go_round
          case rel => exact ⟨i + 1, Q, by omega, HQ, by rw [hst.out, HU.out], by go_num⟩
          case measure => simp [intOf]; omega
        · obtain rfl : i = M := by omega
          clear hi hli
          have hP2 : Hid (P = a ^ i * b ^ 0) := by unfold Hid; rw [hP.out]; simp
          clear hP
          go_wp2_with fail
          go_loop [9, 25] (fun s9 s25 => ∃ j P : Nat, j ≤ k ∧ Hid (P = a ^ i * b ^ j) ∧ s9 = .int .i64 P ∧ s25 = .int .i64 j) (fun _ s25 => k - (intOf s25).toNat)
          case atStart => exact ⟨0, P, Nat.zero_le _, hP2, rfl, rfl⟩
          case round =>
            obtain ⟨j, P, hj, hP, rfl, rfl⟩ := hrel
            by_cases hlj : j < k
            · have j2 : (j : Int) < (k : Int) := by omega
              obtain ⟨Q, hQ⟩ : ∃ Q, Q = a ^ i * b ^ (j + 1) := ⟨_, rfl⟩
              have q1 := hB2.out (j + 1) (by omega)
              rw [← hQ] at q1
              have hst : Hid ((P : Int) * (b : Int) = (Q : Int)) := by unfold Hid; rw [hQ, Nat.pow_succ, ← Nat.mul_assoc, ← hP.out]; exact (Int.natCast_mul _ _).symm
              have HU : Hid (wrap64 (Q : Int) = (Q : Int)) := by unfold Hid wrap64; omega
              have HQ := Lib.hid hQ
              clear hQ q1 hP
              go_wp2_with fail
              go_round
              case rel => exact ⟨j + 1, Q, by omega, HQ, by rw [hst.out, HU.out], by go_num⟩
              case measure => simp [intOf]; omega
            · obtain rfl : j = k := by omega
              have q1 : P ≤ 205891132094649 := by rw [hP.out]; exact hB2.out j (by omega)
              have q2 := hR2.out
              have q3 : rsum a b n (j + 1) = rsum a b n j + P := by rw [hP.out]; exact hR3.out
              have HU : Hid (wrap64 ((rsum a b n j : Nat) + (P : Int)) = ((rsum a b n (j + 1) : Nat) : Int)) := by unfold Hid wrap64; omega
              clear q1 q2 q3 hj hlj hP
              go_wp2_with fail
              go_round
              case rel => exact ⟨j + 1, by omega, by rw [HU.out], by go_num⟩
              case measure => simp [intOf]; omega
    · obtain rfl : k = n := by omega
      go_wp2_with fail
      go_ret
      exact ⟨rfl, rfl⟩
end Go.Proofs.YtmibifmabkaakaaDoor
