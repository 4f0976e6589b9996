/- Plain facts on choices. No condition. -/
import Derived.Lib.Hide
namespace Go.Proofs.YtmibifmabkaakaaDoor

/-- How many choices of k of n there are. -/
def bin : Nat → Nat → Nat
  | _, 0 => 1
  | 0, _ + 1 => 0
  | n + 1, k + 1 => bin n k + bin n (k + 1)
theorem bin_zero (n : Nat) : bin n 0 = 1 := by cases n <;> rfl
theorem bin_succ (n k : Nat) : bin (n + 1) (k + 1) = bin n k + bin n (k + 1) := rfl
theorem bin_gt {n k : Nat} (h : n < k) : bin n k = 0 := by
  induction n generalizing k with
  | zero => cases k with
    | zero => omega
    | succ k => rfl
  | succ n ih => cases k with
    | zero => omega
    | succ k => rw [bin_succ, ih (by omega), ih (by omega)]
theorem bin_self (n : Nat) : bin n n = 1 := by
  induction n with
  | zero => rfl
  | succ n ih => rw [bin_succ, ih, bin_gt (by omega)]
theorem bin_le (n k : Nat) : bin n k ≤ 2 ^ n := by
  induction n generalizing k with
  | zero => cases k <;> simp [bin]
  | succ n ih => cases k with
    | zero => rw [bin_zero]; exact Nat.pow_pos (by decide)
    | succ k => rw [bin_succ, Nat.pow_succ]; have := ih k; have := ih (k + 1); omega
theorem bin_small {n : Nat} (h : n ≤ 61) (k : Nat) : bin n k ≤ 2305843009213693952 :=
  Nat.le_trans (bin_le n k) (Nat.pow_le_pow_right (n := 2) (by decide) h)
theorem bin_mul (n k : Nat) : (n + 1) * bin n k = bin (n + 1) (k + 1) * (k + 1) := by
  induction n generalizing k with
  | zero => cases k with
    | zero => rfl
    | succ k => simp [bin]
  | succ n ih => cases k with
    | zero =>
      have := ih 0
      rw [bin_zero] at this
      rw [bin_zero, bin_succ (n + 1), bin_zero]
      simp only [Nat.zero_add, Nat.mul_one] at *
      omega
    | succ k =>
      have h1 := ih k
      have h2 := ih (k + 1)
      have h3 : bin (n + 1) (k + 1) * (k + 1 + 1) = (n + 1) * bin n k + bin (n + 1) (k + 1) := by rw [Nat.mul_succ, ← h1]
      rw [bin_succ (n + 1) (k + 1), Nat.add_mul (bin (n + 1) (k + 1)), ← h2, h3, bin_succ n k]
      generalize bin n k = a
      generalize bin n (k + 1) = b
      rw [Nat.add_mul (n + 1) 1 (a + b), Nat.mul_add]
      omega
theorem bin_symm (a b : Nat) : bin (a + b) a = bin (a + b) b := by
  induction h : a + b generalizing a b with
  | zero =>
    obtain rfl : a = 0 := by omega
    obtain rfl : b = 0 := by omega
    rfl
  | succ n ih =>
    cases a with
    | zero => obtain rfl : b = n + 1 := by omega
              rw [bin_zero, bin_self]
    | succ a => cases b with
      | zero => obtain rfl : a = n := by omega
                rw [bin_zero, bin_self]
      | succ b =>
        rw [bin_succ, bin_succ, ih a (b + 1) (by omega), ih (a + 1) b (by omega)]
        omega
/-- The same, at whole numbers. -/
def ebin (n k : Int) : Int := if k < 0 then 0 else (bin n.toNat k.toNat : Nat)
end Go.Proofs.YtmibifmabkaakaaDoor
