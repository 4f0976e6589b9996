/- Words of 64 bits: how the walk's arithmetic reads on them. No condition. -/
import Derived.Test.YtmibifmabkaakaaDoorBase
namespace Go.Proofs.YtmibifmabkaakaaDoor
open Go.RowKit

/-- A word as the number that the walk holds. -/
def wv (x : BitVec 64) : Int := (x.toNat : Int)
theorem wv_nn (x : BitVec 64) : 0 ≤ wv x := Int.natCast_nonneg _
theorem wv_lt (x : BitVec 64) : wv x < 18446744073709551616 := by
  unfold wv; have := x.isLt; omega
theorem wv_inj {x y : BitVec 64} (h : wv x = wv y) : x = y := BitVec.eq_of_toNat_eq (by unfold wv at h; omega)
theorem wv_of (a : Int) (h0 : 0 ≤ a) (h1 : a < 18446744073709551616) : ∃ x : BitVec 64, a = wv x := by
  refine ⟨BitVec.ofNat 64 a.toNat, ?_⟩
  unfold wv
  rw [BitVec.toNat_ofNat]
  omega
theorem wv_wrap (a : Int) : IntKind.u64.wrap a = a % 18446744073709551616 := by simp [IntKind.wrap, IntKind.bits, IntKind.signed]
theorem wv_xor (x y : BitVec 64) : bits .xor .u64 (wv x) (wv y) = wv (x ^^^ y) := by
  unfold wv; rw [u64_xor_nat _ _ x.isLt y.isLt, BitVec.toNat_xor]
theorem wv_or (x y : BitVec 64) : bits .or .u64 (wv x) (wv y) = wv (x ||| y) := by
  unfold wv; rw [u64_or_nat _ _ x.isLt y.isLt, BitVec.toNat_or]
theorem wv_and (x y : BitVec 64) : bits .and .u64 (wv x) (wv y) = wv (x &&& y) := by
  unfold wv; rw [u64_and_nat _ _ x.isLt y.isLt, BitVec.toNat_and]
theorem wv_add (x y : BitVec 64) : IntKind.u64.wrap (wv x + wv y) = wv (x + y) := by
  rw [wv_wrap]; unfold wv; rw [BitVec.toNat_add]; omega
theorem wv_mul (x y : BitVec 64) : IntKind.u64.wrap (wv x * wv y) = wv (x * y) := by
  rw [wv_wrap]; unfold wv; rw [BitVec.toNat_mul, ← Int.natCast_mul]; omega
theorem wv_sub (x y : BitVec 64) : IntKind.u64.wrap (wv x - wv y) = wv (x - y) := by
  rw [wv_wrap]; unfold wv; rw [BitVec.toNat_sub]; have := x.isLt; have := y.isLt; omega
theorem wv_mul_lit (x c : BitVec 64) {n : Int} (h : wv c = n) : IntKind.u64.wrap (wv x * n) = wv (x * c) := by rw [← h, wv_mul]
theorem wv_lit_mul (x c : BitVec 64) {n : Int} (h : wv c = n) : IntKind.u64.wrap (n * wv x) = wv (x * c) := by rw [← h, Int.mul_comm, wv_mul]
theorem wv_add_lit (x c : BitVec 64) {n : Int} (h : wv c = n) : IntKind.u64.wrap (wv x + n) = wv (x + c) := by rw [← h, wv_add]
theorem wv_shr (x : BitVec 64) (k : Nat) {n : Int} (h : n = ((2 ^ k : Nat) : Int)) : wv x / n = wv (x >>> k) := by
  subst h; unfold wv; rw [BitVec.toNat_ushiftRight, Nat.shiftRight_eq_div_pow]; rfl
theorem wv_beq (x y : BitVec 64) : (wv x == wv y) = decide (x = y) := by
  rw [Bool.eq_iff_iff]
  simp
  exact ⟨fun h => wv_inj h, fun h => by rw [h]⟩
abbrev W64 (x : BitVec 64) : Value := .int .u64 (wv x)
end Go.Proofs.YtmibifmabkaakaaDoor
