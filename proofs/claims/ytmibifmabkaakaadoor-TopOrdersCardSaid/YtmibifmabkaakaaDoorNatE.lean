/- math/bits: LeadingZeros64 and Div64: the shelf's contract; Div64 walked. No condition but that the quotient is a word. -/
import Derived.Test.YtmibifmabkaakaaDoorNatD
import Derived.Test.YtmibifmabkaakaaDoorBase
import Derived.Shelf.Small.Bits
import Derived.BigQuiet
import Derived.IntWalk
namespace Go.Proofs.YtmibifmabkaakaaDoor
open Go.ChangeShapes Go.WideShapes Go.ChangeAt Go.RowKit
set_option linter.unusedVariables false

/-- What the parts give together. -/
theorem div_parts {hi lo y s : Nat} (hy : hi < y) (hl : lo < 18446744073709551616) (hs : s ≤ 63) (h1 : 9223372036854775808 ≤ y * 2 ^ s) (h2 : y * 2 ^ s < 18446744073709551616) :
    hi * 2 ^ s < 18446744073709551616 ∧ lo / 2 ^ (64 - s) < 2 ^ s ∧ hi * 2 ^ s + lo / 2 ^ (64 - s) < y * 2 ^ s ∧
    (hi * 18446744073709551616 + lo) * 2 ^ s = (hi * 2 ^ s + lo / 2 ^ (64 - s)) * 18446744073709551616 + lo * 2 ^ s % 18446744073709551616 := by
  have e : 2 ^ s * 2 ^ (64 - s) = 18446744073709551616 := by rw [← Nat.pow_add, show s + (64 - s) = 64 by omega]
  have p1 : 0 < 2 ^ s := Nat.pow_pos (by decide)
  have p2 : 0 < 2 ^ (64 - s) := Nat.pow_pos (by decide)
  have a1 : (hi + 1) * 2 ^ s ≤ y * 2 ^ s := Nat.mul_le_mul_right _ hy
  rw [Nat.add_mul, Nat.one_mul] at a1
  have a2 : lo / 2 ^ (64 - s) < 2 ^ s := by
    rw [Nat.div_lt_iff_lt_mul p2, e]; exact hl
  have a3 : lo * 2 ^ s / 18446744073709551616 = lo / 2 ^ (64 - s) := by
    rw [← e, Nat.mul_comm lo, Nat.mul_div_mul_left _ _ p1]
  refine ⟨by omega, a2, by omega, ?_⟩
  have a4 := Nat.div_add_mod (lo * 2 ^ s) 18446744073709551616
  rw [a3] at a4
  rw [Nat.add_mul, Nat.add_mul, Nat.mul_right_comm]
  omega
theorem div_endB {B N y P U T yn q1 R1 q0 R0 u1 u0 : Nat} (hP : 0 < P) (hy : yn = y * P) (hy0 : 0 < y) (hT : T = u1 * B + u0) (hN : N * P = U * (B * B) + T) (e1 : q1 = (U * B + u1) / yn) (e2 : R1 = (U * B + u1) % yn)
    (e3 : q0 = (R1 * B + u0) / yn) (e4 : R0 = (R1 * B + u0) % yn) : q1 * B + q0 = N / y ∧ R0 / P = N % y := by
  have hyn : 0 < yn := by rw [hy]; exact Nat.mul_pos hy0 hP
  have d1 := Nat.div_add_mod (U * B + u1) yn
  have d2 := Nat.div_add_mod (R1 * B + u0) yn
  rw [← e1, ← e2] at d1
  rw [← e3, ← e4] at d2
  have h1 : N * P = (q1 * B + q0) * yn + R0 := by
    rw [hN, hT]
    have h2 : (yn * q1 + R1) * B = (U * B + u1) * B := by rw [d1]
    rw [Nat.add_mul, Nat.add_mul, Nat.mul_assoc, Nat.mul_assoc] at h2
    have h3 : (q1 * B + q0) * yn = yn * (q1 * B) + yn * q0 := by rw [Nat.mul_comm, Nat.mul_add]
    rw [h3]
    generalize yn * (q1 * B) = a at *
    generalize yn * q0 = b at *
    generalize R1 * B = c at *
    generalize U * (B * B) = d at *
    generalize u1 * B = e at *
    omega
  have h5 : R0 < yn := by rw [e4]; exact Nat.mod_lt _ hyn
  generalize q1 * B + q0 = Q at *
  clear d1 d2 hT hN e1 e2 e3 e4
  rw [hy, ← Nat.mul_assoc] at h1
  have h6 : Q * y ≤ N := by
    have : Q * y * P ≤ N * P := by omega
    exact Nat.le_of_mul_le_mul_right this hP
  obtain ⟨r, hr⟩ : ∃ r, N = Q * y + r := ⟨N - Q * y, by omega⟩
  have h7 : R0 = r * P := by rw [hr, Nat.add_mul] at h1; omega
  have h8 : r < y := by
    rw [h7, hy] at h5
    exact Nat.lt_of_mul_lt_mul_right h5
  rw [h7, Nat.mul_div_cancel _ hP, hr]
  refine ⟨?_, ?_⟩
  · rw [Nat.mul_comm Q y, Nat.mul_add_div hy0, Nat.div_eq_of_lt h8]; omega
  · rw [Nat.mul_comm Q y, Nat.mul_add_mod, Nat.mod_eq_of_lt h8]
theorem div_end {N y P U T yn q1 R1 q0 R0 : Nat} (hP : 0 < P) (hy : yn = y * P) (hy0 : 0 < y) (hN : N * P = U * 18446744073709551616 + T) (e1 : q1 = (U * 4294967296 + T / 4294967296) / yn) (e2 : R1 = (U * 4294967296 + T / 4294967296) % yn)
    (e3 : q0 = (R1 * 4294967296 + T % 4294967296) / yn) (e4 : R0 = (R1 * 4294967296 + T % 4294967296) % yn) : q1 * 4294967296 + q0 = N / y ∧ R0 / P = N % y :=
  div_endB (B := 4294967296) hP hy hy0 (by omega) hN e1 e2 e3 e4
end Go.Proofs.YtmibifmabkaakaaDoor
