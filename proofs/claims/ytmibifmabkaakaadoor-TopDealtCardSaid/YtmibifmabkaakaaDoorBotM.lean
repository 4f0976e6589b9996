/- The mix of a word and its undoing: plain. No condition. -/
import Derived.Test.YtmibifmabkaakaaDoorU64
namespace Go.Proofs.YtmibifmabkaakaaDoor

def mstep (x : BitVec 64) (b : Nat) (c : BitVec 64) : BitVec 64 := (x ^^^ (x >>> b)) * c
def bmix (x : BitVec 64) : BitVec 64 := mstep (mstep (mstep x 30 13787848793156543929#64) 27 10723151780598845931#64) 31 1#64
def ush (x : BitVec 64) (b : Nat) : Nat → BitVec 64
  | 0 => x
  | n + 1 => x ^^^ (ush x b n >>> b)
theorem ush_inv (x : BitVec 64) (b n : Nat) : ush x b n ^^^ (ush x b n >>> b) = x ^^^ (x >>> ((n + 1) * b)) := by
  induction n with
  | zero => simp [ush]
  | succ n ih =>
    show (x ^^^ (ush x b n >>> b)) ^^^ ((x ^^^ (ush x b n >>> b)) >>> b) = _
    have h : (ush x b n ^^^ (ush x b n >>> b)) >>> b = (x ^^^ (x >>> ((n + 1) * b))) >>> b := by rw [ih]
    rw [BitVec.ushiftRight_xor_distrib, BitVec.ushiftRight_xor_distrib, ← BitVec.shiftRight_add x, show (n + 1) * b + b = (n + 1 + 1) * b by rw [Nat.add_mul (n + 1), Nat.one_mul]] at h
    rw [BitVec.ushiftRight_xor_distrib]
    have e : (ush x b n >>> b) ^^^ ((ush x b n >>> b) >>> b) ^^^ (x >>> b) = x >>> ((n + 1 + 1) * b) := by
      rw [h, BitVec.xor_comm (x >>> b), BitVec.xor_assoc, BitVec.xor_self, BitVec.xor_zero]
    rw [← e, BitVec.xor_assoc, BitVec.xor_comm (x >>> b), BitVec.xor_assoc]
theorem ush_ok {x : BitVec 64} {b n : Nat} (h : 64 ≤ (n + 1) * b) : ush x b n ^^^ (ush x b n >>> b) = x := by
  rw [ush_inv, BitVec.ushiftRight_eq_zero h, BitVec.xor_zero]
def binv (a : BitVec 64) : Nat → BitVec 64
  | 0 => a
  | n + 1 => binv a n * (2#64 - a * binv a n)
theorem binv_one : binv 13787848793156543929#64 6 * 13787848793156543929#64 = 1#64 := by decide +kernel
theorem binv_two : binv 10723151780598845931#64 6 * 10723151780598845931#64 = 1#64 := by decide +kernel
def bunmix (x : BitVec 64) : BitVec 64 := ush (ush (ush x 31 3 * binv 10723151780598845931#64 6) 27 3 * binv 13787848793156543929#64 6) 30 3
theorem bmix_unmix (x : BitVec 64) : bmix (bunmix x) = x := by
  unfold bmix bunmix mstep
  rw [ush_ok (b := 30) (by decide), BitVec.mul_assoc, binv_one]
  simp only [BitVec.mul_one]
  rw [ush_ok (b := 27) (by decide), BitVec.mul_assoc, binv_two]
  simp only [BitVec.mul_one]
  rw [ush_ok (b := 31) (by decide)]
end Go.Proofs.YtmibifmabkaakaaDoor
