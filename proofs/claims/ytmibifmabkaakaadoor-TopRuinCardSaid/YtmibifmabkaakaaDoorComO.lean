/- How many choices there are, walked. No condition. -/
import Derived.Test.YtmibifmabkaakaaDoorEOf
import Derived.Test.YtmibifmabkaakaaDoorComM
import Derived.BigQuiet
import Derived.IntWalk
namespace Go.Proofs.YtmibifmabkaakaaDoor
open Go.ChangeShapes Go.WideShapes Go.ChangeAt Go.RowKit
set_option linter.unusedVariables false

theorem of_val {h l a i v : Nat} (b1 : h * (a + i + 1) ≤ 2305843009213693952) (b2 : l * (a + i + 1) ≤ 3721) (hs : h * (a + i + 1) + l * (a + i + 1) / (i + 1) = v) (hv : v ≤ 2305843009213693952) :
    wrap64 (wrap64 ((h : Int) * ((a : Int) + ((i : Int) + 1))) + wrap64 ((wrap64 ((l : Int) * ((a : Int) + ((i : Int) + 1)))).tdiv ((i : Int) + 1))) = (v : Int) := by
  have e1 : (h : Int) * ((a : Int) + ((i : Int) + 1)) = ((h * (a + i + 1) : Nat) : Int) := by rw [Int.natCast_mul]; rfl
  have e2 : (l : Int) * ((a : Int) + ((i : Int) + 1)) = ((l * (a + i + 1) : Nat) : Int) := by rw [Int.natCast_mul]; rfl
  rw [e1, e2]
  generalize h * (a + i + 1) = P at *
  generalize l * (a + i + 1) = R at *
  have e3 : wrap64 (R : Int) = R := IntWalk.wrap64_in _ (by omega)
  have e4 : ((R : Int).tdiv ((i : Int) + 1)) = ((R / (i + 1) : Nat) : Int) := by
    rw [Int.tdiv_eq_ediv_of_nonneg (by omega), Int.natCast_ediv]; rfl
  have q : R / (i + 1) ≤ R := Nat.div_le_self _ _
  rw [e3, e4]
  generalize R / (i + 1) = S at *
  rw [IntWalk.wrap64_in (P : Int) (by omega), IntWalk.wrap64_in (S : Int) (by omega), IntWalk.wrap64_in _ (by omega)]
  omega
set_option maxRecDepth 20000 in
set_option maxHeartbeats 2000000 in
theorem of_low (n a b : Nat) (w : World) (hn : n ≤ 61) (hab : a + b = n) (hm : b ≤ a) :
    Calls Tryd.prog 53 #[.int .i64 n, .int .i64 b] w fun e w' => e = .returned (.int .i64 (bin n b : Nat)) ∧ ∃ d, w' = w.drewN d := by
  have i0 : ¬ (b : Int) < 0 := by omega
  have i1 : ¬ (n : Int) < (b : Int) := by omega
  have i2 : (n : Int) - (b : Int) = (a : Int) := by omega
  have i3 : ¬ (a : Int) < (b : Int) := by omega
  have i5 : (n : Int) - (b : Int) = (a : Int) := by omega
  go_enter Tryd.func53, Tryd.ntmps53
  go_wp2_with fail
  clear i0 i1 i2 i3
  go_loopw [5, 6] (fun s5 s6 wr => ∃ i : Nat, i ≤ b ∧ s6 = .int .i64 ((i : Int) + 1) ∧ s5 = .int .i64 (bin (a + i) i : Nat) ∧ ∃ d, wr = w.drewN d) (fun _ s6 _ => b + 1 - (intOf s6).toNat)
  case atStart => exact ⟨0, Nat.zero_le _, rfl, by rw [bin_zero]; rfl, 0, rfl⟩
  case round =>
    obtain ⟨i, hi, rfl, rfl, d, rfl⟩ := hrel
    by_cases hlt : i < b
    · have i4 : (i : Int) + 1 ≤ (b : Int) := by omega
      have HS := Lib.hid (of_step a i)
      obtain ⟨b1, b2⟩ := of_bounds (a := a) (i := i) (by omega)
      have b0 := bin_small (n := a + i) (by omega) i
      have e2 : (bin (a + i) i : Int) / ((i : Int) + 1) = ((bin (a + i) i / (i + 1) : Nat) : Int) := by rw [Int.natCast_ediv]; rfl
      have e3 : (bin (a + i) i : Int) % ((i : Int) + 1) = ((bin (a + i) i % (i + 1) : Nat) : Int) := by rw [Int.natCast_emod]; rfl
      have q1 : bin (a + i) i / (i + 1) ≤ bin (a + i) i := Nat.div_le_self _ _
      have q2 : bin (a + i) i % (i + 1) < i + 1 := Nat.mod_lt _ (Nat.succ_pos i)
      generalize bin (a + i) i / (i + 1) = hi_ at *
      generalize bin (a + i) i % (i + 1) = lo_ at *
      generalize bin (a + i) i = x at *
      go_wp2_with fail
      go_quiet (fail)
      go_wp2_with fail
      go_roundw
      case rel => exact ⟨i + 1, by omega, by go_num, congrArg (Value.int .i64) (of_val b1 b2 HS.out (bin_small (by omega) _)), _, rfl⟩
      case measure => simp [intOf]; omega
    · have hib : Hid (i = b) := by unfold Hid; omega
      have i4 : ¬ (i : Int) + 1 ≤ (b : Int) := by omega
      have HE : Hid (bin (a + i) i = bin n b) := by unfold Hid; rw [hib.out, hab]
      generalize bin (a + i) i = x at *
      go_wp2_with fail
      go_ret
      exact ⟨by rw [HE.out]; rfl, d, rfl⟩
set_option maxRecDepth 20000 in
set_option maxHeartbeats 2000000 in
theorem of_high (n a b : Nat) (w : World) (hn : n ≤ 61) (hab : a + b = n) (hm : b < a) :
    Calls Tryd.prog 53 #[.int .i64 n, .int .i64 a] w fun e w' => e = .returned (.int .i64 (bin n b : Nat)) ∧ ∃ d, w' = w.drewN d := by
  have i0 : ¬ (a : Int) < 0 := by omega
  have i1 : ¬ (n : Int) < (a : Int) := by omega
  have i2 : (n : Int) - (a : Int) = (b : Int) := by omega
  have i3 : (b : Int) < (a : Int) := by omega
  have i5 : (n : Int) - (b : Int) = (a : Int) := by omega
  go_enter Tryd.func53, Tryd.ntmps53
  go_wp2_with fail
  clear i0 i1 i2 i3
  go_loopw [5, 6] (fun s5 s6 wr => ∃ i : Nat, i ≤ b ∧ s6 = .int .i64 ((i : Int) + 1) ∧ s5 = .int .i64 (bin (a + i) i : Nat) ∧ ∃ d, wr = w.drewN d) (fun _ s6 _ => b + 1 - (intOf s6).toNat)
  case atStart => exact ⟨0, Nat.zero_le _, rfl, by rw [bin_zero]; rfl, 0, rfl⟩
  case round =>
    obtain ⟨i, hi, rfl, rfl, d, rfl⟩ := hrel
    by_cases hlt : i < b
    · have i4 : (i : Int) + 1 ≤ (b : Int) := by omega
      have HS := Lib.hid (of_step a i)
      obtain ⟨b1, b2⟩ := of_bounds (a := a) (i := i) (by omega)
      have b0 := bin_small (n := a + i) (by omega) i
      have e2 : (bin (a + i) i : Int) / ((i : Int) + 1) = ((bin (a + i) i / (i + 1) : Nat) : Int) := by rw [Int.natCast_ediv]; rfl
      have e3 : (bin (a + i) i : Int) % ((i : Int) + 1) = ((bin (a + i) i % (i + 1) : Nat) : Int) := by rw [Int.natCast_emod]; rfl
      have q1 : bin (a + i) i / (i + 1) ≤ bin (a + i) i := Nat.div_le_self _ _
      have q2 : bin (a + i) i % (i + 1) < i + 1 := Nat.mod_lt _ (Nat.succ_pos i)
      generalize bin (a + i) i / (i + 1) = hi_ at *
      generalize bin (a + i) i % (i + 1) = lo_ at *
      generalize bin (a + i) i = x at *
      go_wp2_with fail
      go_quiet (fail)
      go_wp2_with fail
      go_roundw
      case rel => exact ⟨i + 1, by omega, by go_num, congrArg (Value.int .i64) (of_val b1 b2 HS.out (bin_small (by omega) _)), _, rfl⟩
      case measure => simp [intOf]; omega
    · have hib : Hid (i = b) := by unfold Hid; omega
      have i4 : ¬ (i : Int) + 1 ≤ (b : Int) := by omega
      have HE : Hid (bin (a + i) i = bin n b) := by unfold Hid; rw [hib.out, hab]
      generalize bin (a + i) i = x at *
      go_wp2_with fail
      go_ret
      exact ⟨by rw [HE.out]; rfl, d, rfl⟩
theorem of_any (n k : Nat) (w : World) (hn : n ≤ 61) :
    Calls Tryd.prog 53 #[.int .i64 n, .int .i64 k] w fun e w' => e = .returned (.int .i64 (bin n k : Nat)) ∧ ∃ d, w' = w.drewN d := by
  by_cases h : k ≤ n
  · by_cases h2 : k ≤ n - k
    · exact of_low n (n - k) k w hn (by omega) h2
    · have := of_high n k (n - k) w hn (by omega) (by omega)
      rwa [of_flip h] at this
  · have hz : Hid (bin n k = 0) := bin_gt (by omega)
    have i0 : ¬ (k : Int) < 0 := by omega
    have i1 : (n : Int) < (k : Int) := by omega
    go_enter Tryd.func53, Tryd.ntmps53
    go_wp2_with fail
    go_ret
    exact ⟨by rw [hz.out]; rfl, 0, rfl⟩
theorem ebin_nat (n k : Nat) : ebin n k = (bin n k : Nat) := by unfold ebin; rw [if_neg (by omega)]; rfl
theorem cof_ok (n k : Int) (w : World) (h0 : 0 ≤ n) (h1 : n ≤ 60) (h2 : 0 ≤ k) :
    Calls Tryd.prog 14 #[.int .i64 n, .int .i64 k] w fun e w' => e = .returned (.tuple #[.int .i64 (ebin n k), .int .i64 0]) ∧ ∃ d, w' = w.drewN d := by
  obtain ⟨N, rfl⟩ : ∃ N : Nat, n = N := ⟨n.toNat, by omega⟩
  obtain ⟨K, rfl⟩ : ∃ K : Nat, k = K := ⟨k.toNat, by omega⟩
  have HE := Lib.hid (ebin_nat N K)
  have i1 : ¬ (60 : Int) < (N : Int) := by omega
  have i2 : ¬ 60 < N := by omega
  go_enter Tryd.func14, Tryd.ntmps14
  go_wp2_with fail
  refine (of_any N K _ (by omega)).mono ?_
  rintro e w' ⟨rfl, d, rfl⟩
  go_wp2_with fail
  go_ret2
  exact ⟨by rw [HE.out]; rfl, d, rfl⟩
theorem cof_bad (n k : Int) (w : World) (h : n < 0 ∨ 60 < n ∨ k < 0) :
    Calls Tryd.prog 14 #[.int .i64 n, .int .i64 k] w fun e w' => e = .returned (.tuple #[.int .i64 0, .int .i64 2]) ∧ w = w' := by
  rcases (by omega : n < 0 ∨ (¬ n < 0 ∧ 60 < n) ∨ (¬ n < 0 ∧ ¬ 60 < n ∧ k < 0)) with h | ⟨h1, h2⟩ | ⟨h1, h2, h3⟩
  · go_enter Tryd.func14, Tryd.ntmps14
    go_wp2_with fail
    go_ret2
    exact ⟨rfl, rfl⟩
  · go_enter Tryd.func14, Tryd.ntmps14
    go_wp2_with fail
    go_ret2
    exact ⟨rfl, rfl⟩
  · go_enter Tryd.func14, Tryd.ntmps14
    go_wp2_with fail
    go_ret2
    exact ⟨rfl, rfl⟩
end Go.Proofs.YtmibifmabkaakaaDoor
