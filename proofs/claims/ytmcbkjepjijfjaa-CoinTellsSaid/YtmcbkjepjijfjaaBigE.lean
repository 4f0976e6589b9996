/- Whole numbers in memory: their lowest 64 bits, one bit, the other sign. No condition. -/
import Derived.Test.YtmcbkjepjijfjaaBigD
namespace Go.Proofs.Ytmcbkjepjijfjaa
open Go.ChangeShapes Go.WideShapes Go.ChangeAt Go.RowKit

theorem or32 (a d : Nat) (ha : a < 4294967296) (hd : d < 4294967296) : bits .or .u64 (IntKind.u64.wrap ((a : Int) * 4294967296)) (d : Int) = ((a * 4294967296 + d : Nat) : Int) := by
  have e : IntKind.u64.wrap ((a : Int) * 4294967296) = ((a * 4294967296 : Nat) : Int) := by simp [IntKind.wrap, IntKind.bits, IntKind.signed]; omega
  rw [e, u64_or_nat _ _ (by omega) (by omega), nat_join 32 _ _ (by omega) (by omega)]
/-- What the topmost j of the lowest M digits are, M no more than 2. -/
def uval (ds : List Nat) (M j : Nat) : Nat := if j = 0 then 0 else if j = 1 then gd ds (M - 1) else gd ds (M - 1) * 4294967296 + gd ds (M - 2)
theorem uval_all {ds : List Nat} (h : dok ds) : uval ds (min ds.length 2) (min ds.length 2) = dv ds % 18446744073709551616 := by
  have h0 := gd_lt32 h 0
  have h1 := gd_lt32 h 1
  by_cases c0 : ds.length = 0
  · rw [show min ds.length 2 = 0 by omega]
    have : dv ds = 0 := by unfold dv; rw [c0]; rfl
    rw [this]; rfl
  by_cases c1 : ds.length = 1
  · rw [show min ds.length 2 = 1 by omega]
    have : dv ds = gd ds 0 := by unfold dv; rw [c1]; show 0 + gd ds 0 * bp 0 = _; rw [bp_zero]; omega
    rw [this]; show gd ds 0 = _; omega
  · rw [show min ds.length 2 = 2 by omega]
    obtain ⟨m, hm⟩ : ∃ m, ds.length = 2 + m := ⟨ds.length - 2, by omega⟩
    have e : dv ds = (0 + gd ds 0 * bp 0 + gd ds 1 * bp 1) + bp 2 * fv (fun i => gd ds (2 + i)) m := by unfold dv; rw [hm, fv_add]; rfl
    have b2 : bp 2 = 18446744073709551616 := rfl
    rw [e, bp_zero, bp_one, b2, Nat.add_mul_mod_self_left]
    show gd ds 1 * 4294967296 + gd ds 0 = _
    omega

theorem ret_bu {a b : Nat} (h : a = b) : Ending.returned (.int .u64 (a : Int)) = .returned (.int .u64 (b : Int)) := by rw [h]
theorem val_u {a b : Int} (h : a = b) : Value.int .u64 a = .int .u64 b := by rw [h]
end Go.Proofs.Ytmcbkjepjijfjaa
