/- Package combo: how many choices there are, walked. No condition. -/
import Derived.Test.YtmibifmabkaakaaDoorBase2
import Derived.Test.YtmibifmabkaakaaDoorBinM
import Derived.IntWalk
namespace Go.Proofs.YtmibifmabkaakaaDoor
open Go.ChangeShapes Go.WideShapes Go.ChangeAt Go.RowKit

/-- How many choices of k of n there are: none, where k is out of reach. -/
def cof (n k : Int) : Int := if k < 0 ∨ n < k then 0 else (bin n.toNat k.toNat : Nat)
theorem cof_step (q i : Nat) : bin (q + i) i * (q + i + 1) = (i + 1) * bin (q + i + 1) (i + 1) := by
  have := bin_mul (q + i) i
  rw [Nat.mul_comm (bin (q + i) i), this, Nat.mul_comm]
/-- The step without a number that is too great. -/
theorem cof_div (q i : Nat) : bin (q + i) i / (i + 1) * (q + i + 1) + bin (q + i) i % (i + 1) * (q + i + 1) / (i + 1) = bin (q + i + 1) (i + 1) := by
  have h := cof_step q i
  generalize bin (q + i) i = a at *
  generalize bin (q + i + 1) (i + 1) = b at *
  generalize q + i + 1 = m at *
  have h1 := Nat.div_add_mod a (i + 1)
  generalize a / (i + 1) = x at *
  generalize a % (i + 1) = y at *
  subst h1
  have e : ((i + 1) * x + y) * m = (i + 1) * (x * m) + y * m := by rw [Nat.add_mul, Nat.mul_assoc]
  rw [e] at h
  have e2 : y * m = (i + 1) * (b - x * m) := by rw [Nat.mul_sub, ← h]; omega
  rw [e2, Nat.mul_div_cancel_left _ (by omega)]
  have : x * m ≤ b := by
    have h3 : (i + 1) * (x * m) ≤ (i + 1) * b := by omega
    exact Nat.le_of_mul_le_mul_left h3 (by omega)
  omega
/-- The same in the walk's own words. -/
theorem cof_wrap {x y D s : Nat} (h : x / (s + 1) * (D + s + 1) + x % (s + 1) * (D + s + 1) / (s + 1) = y) (hx : x ≤ 2305843009213693952) (hy : y ≤ 2305843009213693952) (hs : s ≤ 61) (hD : D ≤ 61) :
    wrap64 (wrap64 (wrap64 ((x : Int) / ((s : Int) + 1)) * ((D : Int) + ((s : Int) + 1))) + wrap64 ((wrap64 ((x : Int) % ((s : Int) + 1) * ((D : Int) + ((s : Int) + 1)))).tdiv ((s : Int) + 1))) = (y : Int) := by
  have e1 : (x : Int) / ((s : Int) + 1) = ((x / (s + 1) : Nat) : Int) := by simp
  have e2 : (x : Int) % ((s : Int) + 1) = ((x % (s + 1) : Nat) : Int) := by simp
  have e3 : (D : Int) + ((s : Int) + 1) = ((D + s + 1 : Nat) : Int) := by omega
  have h1 : x / (s + 1) ≤ x := Nat.div_le_self _ _
  have h2 : x % (s + 1) < s + 1 := Nat.mod_lt _ (by omega)
  have h3 : x % (s + 1) * (D + s + 1) ≤ 62 * 123 := Nat.mul_le_mul (by omega) (by omega)
  have h4 : x % (s + 1) * (D + s + 1) / (s + 1) ≤ x % (s + 1) * (D + s + 1) := Nat.div_le_self _ _
  rw [e1, e2, e3, ← Int.natCast_mul]
  generalize x / (s + 1) = a at *
  generalize x % (s + 1) = b at *
  rw [IntWalk.wrap64_in (a : Int) (by omega), ← Int.natCast_mul]
  have e4 : (((b * (D + s + 1) : Nat) : Int).tdiv ((s : Int) + 1)) = ((b * (D + s + 1) / (s + 1) : Nat) : Int) := by
    rw [Int.tdiv_eq_ediv_of_nonneg (by omega)]; simp
  generalize b * (D + s + 1) = q at *
  generalize a * (D + s + 1) = p at *
  generalize q / (s + 1) = r at *
  rw [IntWalk.wrap64_in (p : Int) (by omega), IntWalk.wrap64_in (q : Int) (by omega), e4, IntWalk.wrap64_in (r : Int) (by omega), IntWalk.wrap64_in _ (by omega)]
  omega
theorem ret_ci {a b : Int} (h : a = b) : Ending.returned (.int .i64 a) = .returned (.int .i64 b) := by rw [h]

set_option maxRecDepth 20000 in
set_option maxHeartbeats 2000000 in
theorem cof_any (n k : Int) (w : World) (hn : n ≤ 61) (hn0 : -9223372036854775808 ≤ n) :
    Calls Tryd.prog 53 #[.int .i64 n, .int .i64 k] w fun e w' => e = .returned (.int .i64 (cof n k)) ∧ ∃ m, w' = w.drewN m := by
  by_cases h1 : k < 0
  · have hf : Hid (cof n k = 0) := if_pos (.inl h1)
    go_enter Tryd.func53, Tryd.ntmps53
    go_wp2
    go_ret
    exact ⟨ret_ci hf.out.symm, ⟨0, rfl⟩⟩
  by_cases h2 : n < k
  · have hf : Hid (cof n k = 0) := if_pos (.inr h2)
    go_enter Tryd.func53, Tryd.ntmps53
    go_wp2
    go_ret
    exact ⟨ret_ci hf.out.symm, ⟨0, rfl⟩⟩
  obtain ⟨K, rfl⟩ : ∃ K : Nat, k = K := ⟨k.toNat, by omega⟩
  obtain ⟨D, rfl⟩ : ∃ D : Nat, n = (K : Int) + (D : Int) := ⟨(n - K).toNat, by omega⟩
  have hf : Hid (cof ((K : Int) + (D : Int)) K = (bin (K + D) K : Nat)) := by unfold Hid cof; rw [if_neg (by omega)]; rfl
  have hsub : (K : Int) + (D : Int) - (K : Int) = (D : Int) := by omega
  have hsub2 : (K : Int) + (D : Int) - (D : Int) = (K : Int) := by omega
  clear h1 h2
  have d1 : decide ((K : Int) < 0) = false := decide_eq_false (by omega)
  have d2 : decide ((K : Int) + (D : Int) < (K : Int)) = false := decide_eq_false (by omega)
  by_cases hm : K ≤ D
  · have hmi : (K : Int) ≤ (D : Int) := by omega
    go_enter Tryd.func53, Tryd.ntmps53
    go_wp2_with fail
    go_loopw [6, 5] (fun s6 s5 wr => ∃ (s n : Nat), s ≤ K ∧ s6 = .int .i64 ((s : Int) + 1) ∧ s5 = .int .i64 (bin (D + s) s : Nat) ∧ wr = w.drewN n) (fun s6 _ _ => K + 1 - (intOf s6).toNat)
    case atStart => exact ⟨0, 0, by omega, rfl, by rw [bin_zero]; rfl, rfl⟩
    case round =>
      obtain ⟨s, n, hs, rfl, rfl, rfl⟩ := hrel
      by_cases hlt : s < K
      · have b1 := bin_small (n := D + s) (by omega) s
        have b2 := bin_small (n := D + s + 1) (by omega) (s + 1)
        have HD := Lib.hid (cof_div D s)
        have d3 : decide ((s : Int) + 1 ≤ (K : Int)) = true := decide_eq_true (by omega)
        obtain ⟨y, hy⟩ : ∃ y, y = bin (D + s + 1) (s + 1) := ⟨_, rfl⟩
        rw [← hy] at HD b2
        have HY : Hid (y = bin (D + (s + 1)) (s + 1)) := hy
        clear hy
        generalize bin (D + s) s = x at *
        go_wp2_with fail
        go_quiet (fail)
        go_wp2_with fail
        refine ⟨⟨s + 1, _, by omega, by go_num, ?_, rfl⟩, by simp [intOf]; omega⟩
        rw [← HY.out, cof_wrap HD.out (by omega) (by omega) (by omega) (by omega)]
      · obtain rfl : s = K := by omega
        have d3 : decide ((s : Int) + 1 ≤ (s : Int)) = false := decide_eq_false (by omega)
        go_wp2_with fail
        go_ret
        exact ⟨ret_ci (by rw [hf.out, Nat.add_comm s D]), ⟨_, rfl⟩⟩
  · have hmi : (D : Int) ≤ (K : Int) := by omega
    have hmj : ¬ (K : Int) ≤ (D : Int) := by omega
    go_enter Tryd.func53, Tryd.ntmps53
    go_wp2_with fail
    go_loopw [6, 5] (fun s6 s5 wr => ∃ (s n : Nat), s ≤ D ∧ s6 = .int .i64 ((s : Int) + 1) ∧ s5 = .int .i64 (bin (K + s) s : Nat) ∧ wr = w.drewN n) (fun s6 _ _ => D + 1 - (intOf s6).toNat)
    case atStart => exact ⟨0, 0, by omega, rfl, by rw [bin_zero]; rfl, rfl⟩
    case round =>
      obtain ⟨s, n, hs, rfl, rfl, rfl⟩ := hrel
      by_cases hlt : s < D
      · have b1 := bin_small (n := K + s) (by omega) s
        have b2 := bin_small (n := K + s + 1) (by omega) (s + 1)
        have HD := Lib.hid (cof_div K s)
        have d3 : decide ((s : Int) + 1 ≤ (D : Int)) = true := decide_eq_true (by omega)
        obtain ⟨y, hy⟩ : ∃ y, y = bin (K + s + 1) (s + 1) := ⟨_, rfl⟩
        rw [← hy] at HD b2
        have HY : Hid (y = bin (K + (s + 1)) (s + 1)) := hy
        clear hy
        generalize bin (K + s) s = x at *
        go_wp2_with fail
        go_quiet (fail)
        go_wp2_with fail
        refine ⟨⟨s + 1, _, by omega, by go_num, ?_, rfl⟩, by simp [intOf]; omega⟩
        rw [← HY.out, cof_wrap HD.out (by omega) (by omega) (by omega) (by omega)]
      · obtain rfl : s = D := by omega
        have d3 : decide ((s : Int) + 1 ≤ (s : Int)) = false := decide_eq_false (by omega)
        go_wp2_with fail
        go_ret
        exact ⟨ret_ci (by rw [hf.out, bin_symm]), ⟨_, rfl⟩⟩
end Go.Proofs.YtmibifmabkaakaaDoor
