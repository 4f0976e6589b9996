/- math/bits: the shelf's contracts of Add64, Sub64, Mul64 at this program. No condition but that a carry is 0 or 1. -/
import Derived.Shelf.Spec.BitsCarry
import Derived.Shelf.Bits.Mul64
import Derived.Test.YtkffakekakhgdaaBase
namespace Go.Proofs.Ytkffakekakhgdaa
open Go.ChangeShapes Go.WideShapes Go.ChangeAt Go.RowKit
set_option linter.unusedVariables false

def laysMul64_ren : Go.Shelf.Ren := ⟨fun | 264 => 112 | n => n, fun | 46 => 96 | 53 => 22 | n => n, fun | n => n⟩
theorem laysMul64 : Go.Proofs.Lays.n264 Try.prog laysMul64_ren := {
  mixed := by kernel_rfl
  f264 := Try.func112.trans (congrArg some (by kernel_rfl))
  t46 := Try.underlying96
  a46 := Try.isAgg96
  z46 := Try.sizeOf96
  v46 := Try.zeroValue96
  t53 := Try.underlying22
  a53 := Try.isAgg22
  z53 := Try.sizeOf22
  v53 := Try.zeroValue22 }
theorem mul64_any (x y : Nat) (hx : x < 18446744073709551616) (hy : y < 18446744073709551616) (w : World) :
    Calls Try.prog 112 #[.int .u64 x, .int .u64 y] w fun e w' => e = .returned (.tuple #[.int .u64 ((x * y / 18446744073709551616 : Nat) : Int), .int .u64 ((x * y % 18446744073709551616 : Nat) : Int)]) ∧ w' = w :=
  Go.Proofs.Any.bits_Mul64 laysMul64 x y hx hy w
end Go.Proofs.Ytkffakekakhgdaa
