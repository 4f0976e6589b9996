/- Package ruin: powers, walked. No condition but that they are small. -/
import Derived.Test.YtmibifmabkaakaaDoorRuiA
namespace Go.Proofs.YtmibifmabkaakaaDoor
open Go.ChangeShapes Go.WideShapes Go.ChangeAt Go.RowKit
set_option linter.unusedVariables false

theorem pow_small {a n k : Nat} (h1 : 1 ≤ a) (h9 : a ≤ 9) (hk : k ≤ n) (hn : n ≤ 16) : a ^ k ≤ 1853020188851841 := by
  have h2 : a ^ k ≤ 9 ^ k := Nat.pow_le_pow_left h9 k
  have h3 : 9 ^ k ≤ 9 ^ 16 := Nat.pow_le_pow_right (by decide) (by omega)
  have h4 : (9 : Nat) ^ 16 = 1853020188851841 := by decide
  omega
set_option maxRecDepth 20000 in
set_option maxHeartbeats 1000000 in
theorem rpow_any (a n : Nat) (w : World) (h1 : 1 ≤ a) (h9 : a ≤ 9) (hn : n ≤ 16) :
    Calls Tryd.prog 65 #[.int .i64 a, .int .i64 n] w fun e w' => e = .returned (.int .i64 (a ^ n : Nat)) ∧ w' = w := by
  have HH := Lib.hid (And.intro h1 (And.intro h9 hn))
  have HS := Lib.hid (fun k (hk : k ≤ n) => pow_small h1 h9 hk hn)
  clear h1 h9
  go_enter Tryd.func65, Tryd.ntmps65
  go_wp2_with fail
  go_loop [5, 7] (fun s5 s7 => ∃ k : Nat, k ≤ n ∧ s5 = .int .i64 (a ^ k : Nat) ∧ s7 = .int .i64 k) (fun _ s7 => n - (intOf s7).toNat)
  case atStart => exact ⟨0, Nat.zero_le _, rfl, rfl⟩
  case round =>
    obtain ⟨k, hk, rfl, rfl⟩ := hrel
    by_cases hlt : k < n
    · have i1 : (k : Int) < (n : Int) := by omega
      have b1 := HS.out (k + 1) (by omega)
      have hst : Hid (((a ^ k : Nat) : Int) * (a : Int) = ((a ^ (k + 1) : Nat) : Int)) := by unfold Hid; rw [Nat.pow_succ]; exact (Int.natCast_mul _ _).symm
      have u1 : wrap64 (((a ^ (k + 1) : Nat) : Int)) = ((a ^ (k + 1) : Nat) : Int) := by unfold wrap64; omega
      have HU := Lib.hid u1
      clear b1 u1
      obtain ⟨Q, hQ⟩ : ∃ Q, Q = a ^ (k + 1) := ⟨_, rfl⟩
      rw [← hQ] at hst HU
      have HQ := Lib.hid hQ
      clear hQ
      generalize a ^ k = P at *
      go_wp2_with fail
      go_round
      case rel => exact ⟨k + 1, by omega, by rw [hst.out, HU.out, HQ.out], by go_num⟩
      case measure => simp [intOf]; omega
    · obtain rfl : k = n := by omega
      go_wp2_with fail
      go_ret
      exact ⟨rfl, rfl⟩
end Go.Proofs.YtmibifmabkaakaaDoor
