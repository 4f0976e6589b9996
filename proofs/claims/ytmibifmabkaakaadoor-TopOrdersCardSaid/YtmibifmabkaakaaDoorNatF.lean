/- math/bits.Div64, walked. No condition but that the quotient is a word. -/
import Derived.Test.YtmibifmabkaakaaDoorNatE
import Derived.Test.YtmibifmabkaakaaDoorNatU
import Derived.Deep.CutBlock
import Derived.Deep.DeepCutAuto
namespace Go.Proofs.YtmibifmabkaakaaDoor
open Go.ChangeShapes Go.WideShapes Go.ChangeAt Go.RowKit
set_option linter.unusedVariables false

theorem quoN (a b : Nat) : Int.tdiv (a : Int) (b : Int) = ((a / b : Nat) : Int) := by
  rw [Int.tdiv_eq_ediv_of_nonneg (by omega)]; rfl
theorem remN (a b : Nat) : Int.tmod (a : Int) (b : Int) = ((a % b : Nat) : Int) := by
  rw [Int.tmod_eq_emod_of_nonneg (by omega)]; rfl
theorem shl64 (a s : Nat) (h : a * 2 ^ s < 18446744073709551616) : IntKind.u64.wrap ((a : Int) * 2 ^ s) = ((a * 2 ^ s : Nat) : Int) := by
  have e : (a : Int) * 2 ^ s = ((a * 2 ^ s : Nat) : Int) := by rw [Int.natCast_mul, Int.natCast_pow]; rfl
  rw [e]
  generalize a * 2 ^ s = z at *
  simp [IntKind.wrap, IntKind.bits, IntKind.signed]; omega
theorem shlm64 (a s : Nat) : IntKind.u64.wrap ((a : Int) * 2 ^ s) = ((a * 2 ^ s % 18446744073709551616 : Nat) : Int) := by
  have e : (a : Int) * 2 ^ s = ((a * 2 ^ s : Nat) : Int) := by rw [Int.natCast_mul, Int.natCast_pow]; rfl
  rw [e]
  generalize a * 2 ^ s = z at *
  simp [IntKind.wrap, IntKind.bits, IntKind.signed]
theorem shr64 (a s : Nat) : (a : Int) / 2 ^ s = ((a / 2 ^ s : Nat) : Int) := by
  have e : (2 : Int) ^ s = ((2 ^ s : Nat) : Int) := by rw [Int.natCast_pow]; rfl
  rw [e]; rfl
theorem and32 (a : Nat) (h : a < 18446744073709551616) : bits .and .u64 (a : Int) 4294967295 = ((a % 4294967296 : Nat) : Int) := by
  have h1 := bits_and_u64_nat a 4294967295 h (by decide)
  have e : a &&& 4294967295 = a % 4294967296 := Nat.and_two_pow_sub_one_eq_mod a 32
  rw [e] at h1
  exact h1
theorem or64 (a l s : Nat) (hl : l < 2 ^ s) (hb : a * 2 ^ s + l < 18446744073709551616) : bits .or .u64 ((a * 2 ^ s : Nat) : Int) (l : Int) = ((a * 2 ^ s + l : Nat) : Int) := by
  rw [bits_or_u64_nat (a * 2 ^ s) l (by omega) (by omega), Nat.mul_comm a, Nat.two_pow_add_eq_or_of_lt hl]
theorem add_64 {a b : Nat} (h : a + b < 18446744073709551616) : IntKind.u64.wrap ((a : Int) + (b : Int)) = ((a + b : Nat) : Int) := by
  simp [IntKind.wrap, IntKind.bits, IntKind.signed]; omega
theorem sub1_64 {a : Nat} (h0 : 0 < a) (h : a < 18446744073709551616) : IntKind.u64.wrap ((a : Int) - 1) = ((a - 1 : Nat) : Int) := by
  simp [IntKind.wrap, IntKind.bits, IntKind.signed]; omega
theorem mul_64 {a b : Nat} (h : a * b < 18446744073709551616) : IntKind.u64.wrap ((a : Int) * (b : Int)) = ((a * b : Nat) : Int) := by
  rw [← Int.natCast_mul]
  generalize a * b = z at *
  simp [IntKind.wrap, IntKind.bits, IntKind.signed]; omega
theorem rest64 (U V : Nat) (h : U < 18446744073709551616) : IntKind.u64.wrap ((U : Int) - IntKind.u64.wrap (((U / V : Nat) : Int) * (V : Int))) = ((U % V : Nat) : Int) := by
  have h1 := Nat.div_add_mod U V
  rw [Nat.mul_comm] at h1
  have h2 : U % V ≤ U := Nat.mod_le _ _
  rw [← Int.natCast_mul]
  generalize U / V * V = z at *
  generalize U % V = r at *
  simp [IntKind.wrap, IntKind.bits, IntKind.signed]; omega
theorem left64 (U u Y : Nat) (h : Y < 18446744073709551616) (e : 0 < Y) : IntKind.u64.wrap (IntKind.u64.wrap (IntKind.u64.wrap ((U : Int) * 4294967296) + (u : Int)) - IntKind.u64.wrap ((((U * 4294967296 + u) / Y : Nat) : Int) * (Y : Int))) = (((U * 4294967296 + u) % Y : Nat) : Int) := by
  · have h1 := Nat.div_add_mod (U * 4294967296 + u) Y
    rw [Nat.mul_comm] at h1
    have h2 := Nat.mod_lt (U * 4294967296 + u) e
    rw [← Int.natCast_mul]
    generalize (U * 4294967296 + u) / Y * Y = z at *
    generalize (U * 4294967296 + u) % Y = r at *
    simp [IntKind.wrap, IntKind.bits, IntKind.signed]; omega
theorem guess_lt {U u V1 V0 Y : Nat} (h : U < V1 * 4294967296 + V0) (hY : Y = V1 * 4294967296 + V0) (hu : u < 4294967296) : (U * 4294967296 + u) / Y < 4294967296 := by
  rw [Nat.div_lt_iff_lt_mul (by omega), hY]; omega
end Go.Proofs.YtmibifmabkaakaaDoor
