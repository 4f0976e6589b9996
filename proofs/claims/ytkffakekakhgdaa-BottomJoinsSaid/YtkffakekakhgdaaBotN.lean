/- A step of the mix, by numbers; the bits of the step back: plain. No condition. -/
import Derived.Test.YtkffakekakhgdaaBotM
namespace Go.Proofs.Ytkffakekakhgdaa

theorem mstep_nat (y : BitVec 64) (b : Nat) (c : BitVec 64) : ((y.toNat ^^^ (y.toNat / 2 ^ b)) * c.toNat) % 18446744073709551616 = (mstep y b c).toNat := by
  unfold mstep
  rw [BitVec.toNat_mul, BitVec.toNat_xor, BitVec.toNat_ushiftRight, Nat.shiftRight_eq_div_pow]
/-- One bit of c, and of what it was, so far. -/
def bbit (c x : BitVec 64) (k : Nat) : BitVec 64 := if k < 17 then (c >>> k) &&& 1#64 else ((c >>> k) &&& 1#64) ^^^ ((x >>> (k - 17)) &&& 1#64)
def bk (c : BitVec 64) : Nat → BitVec 64
  | 0 => 0#64
  | k + 1 => bk c k ||| (bbit c (bk c k) k <<< k)
def bfull (c : BitVec 64) : BitVec 64 := c ^^^ (c <<< 17) ^^^ (c <<< 34) ^^^ (c <<< 51)
theorem bfull_ok (c : BitVec 64) : bfull c ^^^ (bfull c <<< 17) = c := by
  unfold bfull
  ext i h
  simp
  by_cases h1 : i < 17
  · simp [h1, show i < 34 by omega, show i < 51 by omega]
  · by_cases h2 : i < 34
    · simp [h1, h2, show i < 51 by omega, show i - 17 < 17 by omega, show i - 17 < 34 by omega, show i - 17 < 51 by omega]
    · by_cases h3 : i < 51
      · simp only [h1, h2, h3, show ¬ i - 17 < 17 by omega, show i - 17 < 34 by omega, show i - 17 < 51 by omega, show i - 17 - 17 = i - 34 by omega, decide_true, decide_false, Bool.not_true, Bool.not_false, Bool.false_and, Bool.true_and]
        cases c[i] <;> cases c[i - 17] <;> cases c[i - 34] <;> rfl
      · simp only [h1, h2, h3, show ¬ i - 17 < 17 by omega, show ¬ i - 17 < 34 by omega, show i - 17 < 51 by omega, show i - 17 - 17 = i - 34 by omega, show i - 17 - 34 = i - 51 by omega, decide_true, decide_false, Bool.not_true, Bool.not_false, Bool.false_and, Bool.true_and]
        cases c[i] <;> cases c[i - 17] <;> cases c[i - 34] <;> cases c[i - 51] <;> rfl
theorem one_bit (x : BitVec 64) (k i : Nat) : ((x >>> k) &&& 1#64).getLsbD i = (decide (i = 0) && x.getLsbD k) := by
  rw [BitVec.getLsbD_and, BitVec.getLsbD_one, BitVec.getLsbD_ushiftRight]
  by_cases h : i = 0
  · subst h; simp
  · simp [h]
theorem bfull_bit (c : BitVec 64) (k : Nat) (hk : k < 64) : (bfull c).getLsbD k = (c.getLsbD k ^^ (decide (17 ≤ k) && (bfull c).getLsbD (k - 17))) := by
  have h := congrArg (fun z => z.getLsbD k) (bfull_ok c)
  simp only [BitVec.getLsbD_xor, BitVec.getLsbD_shiftLeft] at h
  rw [← h]
  by_cases h1 : k < 17
  · simp [h1, hk, show ¬ 17 ≤ k by omega]
  · simp [h1, hk, show 17 ≤ k by omega]
theorem bk_bits (c : BitVec 64) (k : Nat) (hk : k ≤ 64) : ∀ i, (bk c k).getLsbD i = (decide (i < k) && (bfull c).getLsbD i) := by
  induction k with
  | zero => intro i; simp [bk]
  | succ k ih =>
    intro i
    have ih := ih (by omega)
    have hb : (bbit c (bk c k) k).getLsbD (i - k) = (decide (i - k = 0) && (bfull c).getLsbD k) := by
      unfold bbit
      by_cases h1 : k < 17
      · rw [if_pos h1, one_bit, bfull_bit c k (by omega)]
        simp [show ¬ 17 ≤ k by omega]
      · rw [if_neg h1, BitVec.getLsbD_xor, one_bit, one_bit, ih, bfull_bit c k (by omega)]
        simp [show 17 ≤ k by omega, show k - 17 < k by omega]
        cases decide (i - k = 0) <;> simp
    show (bk c k ||| (bbit c (bk c k) k <<< k)).getLsbD i = _
    rw [BitVec.getLsbD_or, BitVec.getLsbD_shiftLeft, ih, hb]
    by_cases h1 : i < k
    · simp [h1, show i < k + 1 by omega]
    · by_cases h2 : i = k
      · subst h2; simp [show i < 64 by omega]
      · simp [h1, show ¬ i < k + 1 by omega, show i - k ≠ 0 by omega]
theorem bk_ok (c : BitVec 64) : bk c 64 ^^^ (bk c 64 <<< 17) = c := by
  have h : bk c 64 = bfull c := by
    apply BitVec.eq_of_getLsbD_eq
    intro i hi
    rw [bk_bits c 64 (Nat.le_refl _) i]
    simp [hi]
  rw [h, bfull_ok]
end Go.Proofs.Ytkffakekakhgdaa
