/- math/bits: the shelf's contracts of Add64, Sub64, Mul64 at this program. No condition but that a carry is 0 or 1. -/
import Derived.Shelf.Spec.BitsCarry
import Derived.Shelf.Bits.Mul64
import Derived.Test.YtmibifmabkaakaaDoorBase
namespace Go.Proofs.YtmibifmabkaakaaDoor
open Go.ChangeShapes Go.WideShapes Go.ChangeAt Go.RowKit
set_option linter.unusedVariables false

def laysAdd64_ren : Go.Shelf.Ren := ⟨fun | 25 => 56 | n => n, fun | 22 => 34 | n => n, fun | n => n⟩
theorem laysAdd64 : Go.Proofs.Lays7.n25 Tryd.prog laysAdd64_ren := {
  mixed := by kernel_rfl
  f25 := Tryd.func56.trans (congrArg some (by kernel_rfl))
  t22 := Tryd.underlying34
  a22 := Tryd.isAgg34
  z22 := Tryd.sizeOf34
  v22 := Tryd.zeroValue34
  i22 := by kernel_rfl }
def laysMul64_ren : Go.Shelf.Ren := ⟨fun | 264 => 55 | n => n, fun | 46 => 135 | 53 => 34 | n => n, fun | n => n⟩
theorem laysMul64 : Go.Proofs.Lays.n264 Tryd.prog laysMul64_ren := {
  mixed := by kernel_rfl
  f264 := Tryd.func55.trans (congrArg some (by kernel_rfl))
  t46 := Tryd.underlying135
  a46 := Tryd.isAgg135
  z46 := Tryd.sizeOf135
  v46 := Tryd.zeroValue135
  t53 := Tryd.underlying34
  a53 := Tryd.isAgg34
  z53 := Tryd.sizeOf34
  v53 := Tryd.zeroValue34 }
theorem add64_run (x y c : Nat) (hc : c ≤ 1) (w : World) :
    (callFunc 56 #[.int .u64 x, .int .u64 y, .int .u64 c]).run Tryd.prog w = .ok (.value (.tuple #[.int .u64 (((x + y + c) % 18446744073709551616 : Nat) : Int), .int .u64 (((x + y + c) / 18446744073709551616 : Nat) : Int)])) w :=
  Go.Proofs.Any7.bits_Add64 laysAdd64 x y c hc w
theorem add64_run0 (x y : Nat) (w : World) :
    (callFunc 56 #[.int .u64 x, .int .u64 y, .int .u64 0]).run Tryd.prog w = .ok (.value (.tuple #[.int .u64 (((x + y) % 18446744073709551616 : Nat) : Int), .int .u64 (((x + y) / 18446744073709551616 : Nat) : Int)])) w :=
  add64_run x y 0 (by decide) w
theorem mul64_any (x y : Nat) (hx : x < 18446744073709551616) (hy : y < 18446744073709551616) (w : World) :
    Calls Tryd.prog 55 #[.int .u64 x, .int .u64 y] w fun e w' => e = .returned (.tuple #[.int .u64 ((x * y / 18446744073709551616 : Nat) : Int), .int .u64 ((x * y % 18446744073709551616 : Nat) : Int)]) ∧ w' = w :=
  Go.Proofs.Any.bits_Mul64 laysMul64 x y hx hy w
end Go.Proofs.YtmibifmabkaakaaDoor
