/- The mixer's step and the turning of a word's bits, and the reference's, each walked once. No condition. -/
import Derived.Test.YtmibifmabkaakaaDoorU64
import Derived.RegionTactic
import Derived.ChangeAlike
namespace Go.Proofs.YtmibifmabkaakaaDoor
open Go.ChangeShapes Go.WideShapes Go.ChangeAt Go.RowKit

/-- A number of 64 bits, turned by n to the left. -/
def rotN (x n : Nat) : Nat := (x % 2 ^ (64 - n)) * 2 ^ n + x / 2 ^ (64 - n)
theorem pow_split (n : Nat) (h : n ≤ 64) : 2 ^ (64 - n) * 2 ^ n = 18446744073709551616 := by
  rw [← Nat.pow_add, show 64 - n + n = 64 by omega]
theorem rotN_lt (x n : Nat) (h : n ≤ 64) (hx : x < 18446744073709551616) : rotN x n < 18446744073709551616 := by
  have hp := pow_split n h
  have h0 : 0 < 2 ^ (64 - n) := Nat.pow_pos (by decide)
  have h1 : 0 < 2 ^ n := Nat.pow_pos (by decide)
  have h2 := Nat.mod_lt x h0
  have h3 : x / 2 ^ (64 - n) < 2 ^ n := by
    rw [Nat.div_lt_iff_lt_mul h0, Nat.mul_comm]
    omega
  unfold rotN
  have h4 : (x % 2 ^ (64 - n) + 1) * 2 ^ n ≤ 2 ^ (64 - n) * 2 ^ n := Nat.mul_le_mul_right _ h2
  rw [Nat.add_mul, Nat.one_mul] at h4
  omega
theorem rotN_zero (x : Nat) (hx : x < 18446744073709551616) : rotN x 0 = x := by
  unfold rotN
  simp
  omega
theorem rotN_step (x n : Nat) (h : n < 64) (hx : x < 18446744073709551616) : 2 * rotN x n % 18446744073709551616 + rotN x n / 9223372036854775808 = rotN x (n + 1) := by
  obtain ⟨m, hm⟩ : ∃ m, 64 - n = m + 1 := ⟨63 - n, by omega⟩
  have hp := pow_split n (by omega)
  rw [hm, Nat.pow_succ] at hp
  unfold rotN
  rw [hm, show 64 - (n + 1) = m by omega, Nat.pow_succ, Nat.pow_succ]
  have h0 : 0 < 2 ^ m := Nat.pow_pos (by decide)
  have h1 : 0 < 2 ^ n := Nat.pow_pos (by decide)
  generalize 2 ^ m = P at *
  generalize 2 ^ n = R at *
  have hx1 : x % (P * 2) = x % P + P * (x / P % 2) := Nat.mod_mul
  have hx2 : x / (P * 2) = x / P / 2 := by rw [Nat.div_div_eq_div_mul]
  have hq : x / P / 2 < R := by
    rw [← hx2, Nat.div_lt_iff_lt_mul (by omega), Nat.mul_comm R]
    omega
  rw [hx1, hx2]
  have hr := Nat.mod_lt x h0
  have hb := Nat.mod_lt (x / P) (by decide : 0 < 2)
  generalize x % P = r at *
  generalize x / P = q at *
  have hM : P * R = 9223372036854775808 := by
    rw [Nat.mul_right_comm] at hp
    omega
  have hZ : r * R + q / 2 < 9223372036854775808 := by
    have h4 : (r + 1) * R ≤ P * R := Nat.mul_le_mul_right _ hr
    rw [Nat.add_mul, Nat.one_mul] at h4
    omega
  have e1 : (r + P * (q % 2)) * R = r * R + 9223372036854775808 * (q % 2) := by
    rw [Nat.add_mul, Nat.mul_right_comm, hM]
  have e2 : r * (R * 2) = 2 * (r * R) := by rw [← Nat.mul_assoc, Nat.mul_comm]
  rw [e1, e2]
  generalize r * R = Z at *
  rcases (by omega : q % 2 = 0 ∨ q % 2 = 1) with e | e <;> rw [e] <;> omega
def rot (x : BitVec 64) (n : Nat) : BitVec 64 := BitVec.ofNat 64 (rotN x.toNat n)
theorem wv_rot (x : BitVec 64) (n : Nat) (h : n ≤ 64) : wv (rot x n) = (rotN x.toNat n : Nat) := by
  unfold wv rot
  rw [BitVec.toNat_ofNat, Nat.mod_eq_of_lt (rotN_lt _ _ h x.isLt)]
theorem rot_back (x : BitVec 64) : rot (rot x 19) 45 = x := by
  apply BitVec.eq_of_toNat_eq
  have hx := x.isLt
  have e (y : BitVec 64) (n : Nat) (h : n ≤ 64) : (rot y n).toNat = rotN y.toNat n := by
    unfold rot
    rw [BitVec.toNat_ofNat, Nat.mod_eq_of_lt (rotN_lt _ _ h y.isLt)]
  rw [e _ _ (by decide), e _ _ (by decide)]
  unfold rotN
  generalize x.toNat = n at *
  simp only [show 64 - 19 = 45 from rfl, show 64 - 45 = 19 from rfl]
  omega

theorem rot_form (x : BitVec 64) (s : Nat) (hs0 : 0 < s) (hs : s < 64) : bits .or .u64 (IntKind.u64.wrap (wv x * 2 ^ s)) (wv x / 2 ^ (64 - s)) = wv (rot x s) := by
  have hx := x.isLt
  rw [wv_rot x s (by omega), wv_wrap]
  unfold wv rotN
  have e1 : ((2 : Int) ^ s) = ((2 ^ s : Nat) : Int) := by rw [Int.natCast_pow]; rfl
  have e2 : ((2 : Int) ^ (64 - s)) = ((2 ^ (64 - s) : Nat) : Int) := by rw [Int.natCast_pow]; rfl
  have hp := pow_split s (by omega)
  have h0 : 0 < 2 ^ (64 - s) := Nat.pow_pos (by decide)
  have h1 : 0 < 2 ^ s := Nat.pow_pos (by decide)
  rw [e1, e2, ← Int.natCast_mul, ← Int.natCast_ediv]
  have e3 : (((x.toNat * 2 ^ s : Nat) : Int) % 18446744073709551616) = ((x.toNat % 2 ^ (64 - s) * 2 ^ s : Nat) : Int) := by
    have : x.toNat * 2 ^ s % 18446744073709551616 = x.toNat % 2 ^ (64 - s) * 2 ^ s := by
      rw [← hp, Nat.mul_mod_mul_right]
    omega
  have h3 : x.toNat / 2 ^ (64 - s) < 2 ^ s := by
    rw [Nat.div_lt_iff_lt_mul h0, Nat.mul_comm]
    omega
  have h5 : x.toNat % 2 ^ (64 - s) * 2 ^ s < 18446744073709551616 := by
    have h2 := Nat.mod_lt x.toNat h0
    have h4 : (x.toNat % 2 ^ (64 - s) + 1) * 2 ^ s ≤ 2 ^ (64 - s) * 2 ^ s := Nat.mul_le_mul_right _ h2
    rw [Nat.add_mul, Nat.one_mul] at h4
    omega
  rw [e3, u64_or_nat _ _ h5 (Nat.lt_of_le_of_lt (Nat.div_le_self _ _) hx), nat_join s _ _ (Nat.mul_mod_left _ _) h3]
theorem turn_form (y : Nat) (h : y < 18446744073709551616) : IntKind.u64.wrap (IntKind.u64.wrap (2 * (y : Int)) + (y : Int) / 9223372036854775808) = ((2 * y % 18446744073709551616 + y / 9223372036854775808 : Nat) : Int) := by
  rw [wv_wrap, wv_wrap]; omega
theorem val_u64 {a b : Int} (h : a = b) : Value.int .u64 a = .int .u64 b := by rw [h]
theorem ret_u64 {a b : Int} (h : a = b) : Ending.returned (.int .u64 a) = .returned (.int .u64 b) := by rw [h]

theorem rot_any (x : BitVec 64) (k : Int) (s : Nat) (w : World) (hs0 : 0 < s) (hs : s < 64) (hk : bits .and .u64 (IntKind.u64.wrap k) 63 = (s : Int)) :
    Calls Tryd.prog 102 #[W64 x, .int .i64 k] w fun e w' => e = .returned (W64 (rot x s)) ∧ w = w' := by
  have h0 := wv_nn x
  have h1 := wv_lt x
  go_enter Tryd.func102, Tryd.ntmps102
  go_wp2
  go_ret
  exact ⟨ret_u64 (rot_form x s hs0 hs), rfl⟩

/-- Four words as the walk holds them. -/
abbrev M4 (a b c d : BitVec 64) : Value := .agg #[W64 a, W64 b, W64 c, W64 d]

set_option maxHeartbeats 1000000 in
theorem step_any (a b c d : BitVec 64) (w : World) :
    Calls Tryd.prog 90 #[M4 a b c d] w fun e w' => e = .returned (.tuple #[W64 (rot (b * 5#64) 7 * 9#64), M4 (a ^^^ (d ^^^ b)) (b ^^^ (c ^^^ a)) ((c ^^^ a) ^^^ (b * 131072#64)) (rot (d ^^^ b) 45)]) ∧ Below w.heap.size w w' := by
  have m5 := wv_mul_lit b 5#64 (n := 5) rfl
  have m9 := fun y => wv_mul_lit y 9#64 (n := 9) rfl
  have m17 := wv_mul_lit b 131072#64 (n := 131072) rfl
  have hx := wv_xor
  go_enter Tryd.func90, Tryd.ntmps90
  go_wp2_with fail
  refine (rot_any _ 7 7 _ (by decide) (by decide) (by decide)).mono ?_
  rintro e w' ⟨rfl, rfl⟩
  go_wp2_with fail
  refine (rot_any _ 45 45 _ (by decide) (by decide) (by decide)).mono ?_
  rintro e w' ⟨rfl, rfl⟩
  go_wp2_with fail
  clear m5 m9 m17 hx
  go_region
  go_wp2
  refine bodyPost_ret (v := .tuple #[W64 (rot (b * 5#64) 7 * 9#64), M4 (a ^^^ (d ^^^ b)) (b ^^^ (c ^^^ a)) ((c ^^^ a) ^^^ (b * 131072#64)) (rot (d ^^^ b) 45)]) (by simp [results, Tryd.results90, go_sem]) rfl ⟨rfl, ?_⟩
  exact Below.drew (((Below.refl _ _).alloc (Nat.le_refl _) _).alloc (by simp) _)

/-- A mixer as the walk holds it. -/
abbrev MV (m : BitVec 64 × BitVec 64 × BitVec 64 × BitVec 64) : Value := M4 m.1 m.2.1 m.2.2.1 m.2.2.2
def mnext (m : BitVec 64 × BitVec 64 × BitVec 64 × BitVec 64) : BitVec 64 × BitVec 64 × BitVec 64 × BitVec 64 :=
  (m.1 ^^^ (m.2.2.2 ^^^ m.2.1), m.2.1 ^^^ (m.2.2.1 ^^^ m.1), (m.2.2.1 ^^^ m.1) ^^^ (m.2.1 * 131072#64), rot (m.2.2.2 ^^^ m.2.1) 45)
def mout (m : BitVec 64 × BitVec 64 × BitVec 64 × BitVec 64) : BitVec 64 := rot (m.2.1 * 5#64) 7 * 9#64
def mat (m : BitVec 64 × BitVec 64 × BitVec 64 × BitVec 64) : Nat → BitVec 64 × BitVec 64 × BitVec 64 × BitVec 64
  | 0 => m
  | j + 1 => mnext (mat m j)
def mwords (m : BitVec 64 × BitVec 64 × BitVec 64 × BitVec 64) (j : Nat) : List (BitVec 64) := (List.range j).map fun i => mout (mat m i)
theorem mwords_succ (m : BitVec 64 × BitVec 64 × BitVec 64 × BitVec 64) (j : Nat) : mwords m (j + 1) = mwords m j ++ [mout (mat m j)] := by
  unfold mwords; rw [List.range_succ, List.map_append]; rfl
theorem mwords_len (m : BitVec 64 × BitVec 64 × BitVec 64 × BitVec 64) (j : Nat) : (mwords m j).length = j := by simp [mwords]
theorem step_at (m : BitVec 64 × BitVec 64 × BitVec 64 × BitVec 64) (w : World) :
    Calls Tryd.prog 90 #[MV m] w fun e w' => e = .returned (.tuple #[W64 (mout m), MV (mnext m)]) ∧ Below w.heap.size w w' := step_any m.1 m.2.1 m.2.2.1 m.2.2.2 w
theorem words_bad (m : BitVec 64 × BitVec 64 × BitVec 64 × BitVec 64) (n : Int) (w : World) (h : n < 0 ∨ 10000 < n) :
    Calls Tryd.prog 71 #[MV m, .int .i64 n] w fun e w' => e = .returned (.tuple #[.slice none 0 0, M4 0#64 0#64 0#64 0#64, .int .i64 2]) ∧ Below w.heap.size w w' := by
  have e0 : wv 0#64 = 0 := rfl
  by_cases h1 : n < 0
  · clear h
    go_enter Tryd.func71, Tryd.ntmps71
    go_wp2
    refine bodyPost_ret (v := .tuple #[.slice none 0 0, M4 0#64 0#64 0#64 0#64, .int .i64 2]) (by simp [results, Tryd.results71, go_sem, e0]) rfl ⟨rfl, ?_⟩
    repeat (refine Below.setCell ?_ (by simp) _)
    exact ((Below.refl _ _).alloc (Nat.le_refl _) _).alloc (by simp) _
  · have h2 : 10000 < n := by omega
    clear h
    go_enter Tryd.func71, Tryd.ntmps71
    go_wp2
    refine bodyPost_ret (v := .tuple #[.slice none 0 0, M4 0#64 0#64 0#64 0#64, .int .i64 2]) (by simp [results, Tryd.results71, go_sem, e0]) rfl ⟨rfl, ?_⟩
    repeat (refine Below.setCell ?_ (by simp) _)
    exact ((Below.refl _ _).alloc (Nat.le_refl _) _).alloc (by simp) _
end Go.Proofs.YtmibifmabkaakaaDoor
