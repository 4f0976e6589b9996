/- math/bits: the shelf's contracts of Add64, Sub64, Mul64 at this program. No condition but that a carry is 0 or 1. -/
import Derived.Shelf.Spec.BitsCarry
import Derived.Shelf.Bits.Mul64
import Derived.Test.YtaehehoeidnidaaBase
namespace Go.Proofs.Ytaehehoeidnidaa
open Go.ChangeShapes Go.WideShapes Go.ChangeAt Go.RowKit
set_option linter.unusedVariables false

def laysAdd64_ren : Go.Shelf.Ren := ⟨fun | 25 => 118 | n => n, fun | 22 => 52 | n => n, fun | n => n⟩
theorem laysAdd64 : Go.Proofs.Lays7.n25 Try.prog laysAdd64_ren := {
  mixed := by kernel_rfl
  f25 := Try.func118.trans (congrArg some (by kernel_rfl))
  t22 := Try.underlying52
  a22 := Try.isAgg52
  z22 := Try.sizeOf52
  v22 := Try.zeroValue52
  i22 := by kernel_rfl }
def laysSub64_ren : Go.Shelf.Ren := ⟨fun | 26 => 122 | n => n, fun | 22 => 52 | n => n, fun | n => n⟩
theorem laysSub64 : Go.Proofs.Lays7.n26 Try.prog laysSub64_ren := {
  mixed := by kernel_rfl
  f26 := Try.func122.trans (congrArg some (by kernel_rfl))
  t22 := Try.underlying52
  a22 := Try.isAgg52
  z22 := Try.sizeOf52
  v22 := Try.zeroValue52
  i22 := by kernel_rfl }
def laysMul64_ren : Go.Shelf.Ren := ⟨fun | 264 => 123 | n => n, fun | 46 => 139 | 53 => 52 | n => n, fun | n => n⟩
theorem laysMul64 : Go.Proofs.Lays.n264 Try.prog laysMul64_ren := {
  mixed := by kernel_rfl
  f264 := Try.func123.trans (congrArg some (by kernel_rfl))
  t46 := Try.underlying139
  a46 := Try.isAgg139
  z46 := Try.sizeOf139
  v46 := Try.zeroValue139
  t53 := Try.underlying52
  a53 := Try.isAgg52
  z53 := Try.sizeOf52
  v53 := Try.zeroValue52 }
theorem add64_run (x y c : Nat) (hc : c ≤ 1) (w : World) :
    (callFunc 118 #[.int .u64 x, .int .u64 y, .int .u64 c]).run Try.prog w = .ok (.value (.tuple #[.int .u64 (((x + y + c) % 18446744073709551616 : Nat) : Int), .int .u64 (((x + y + c) / 18446744073709551616 : Nat) : Int)])) w :=
  Go.Proofs.Any7.bits_Add64 laysAdd64 x y c hc w
theorem add64_run0 (x y : Nat) (w : World) :
    (callFunc 118 #[.int .u64 x, .int .u64 y, .int .u64 0]).run Try.prog w = .ok (.value (.tuple #[.int .u64 (((x + y) % 18446744073709551616 : Nat) : Int), .int .u64 (((x + y) / 18446744073709551616 : Nat) : Int)])) w :=
  add64_run x y 0 (by decide) w
theorem sub64_run (x y b : Nat) (hb : b ≤ 1) (w : World) :
    (callFunc 122 #[.int .u64 x, .int .u64 y, .int .u64 b]).run Try.prog w = .ok (.value (.tuple #[.int .u64 (((x + 18446744073709551616 - y - b) % 18446744073709551616 : Nat) : Int), .int .u64 ((if x < y + b then 1 else 0 : Nat) : Int)])) w :=
  Go.Proofs.Any7.bits_Sub64 laysSub64 x y b hb w
theorem mul64_any (x y : Nat) (hx : x < 18446744073709551616) (hy : y < 18446744073709551616) (w : World) :
    Calls Try.prog 123 #[.int .u64 x, .int .u64 y] w fun e w' => e = .returned (.tuple #[.int .u64 ((x * y / 18446744073709551616 : Nat) : Int), .int .u64 ((x * y % 18446744073709551616 : Nat) : Int)]) ∧ w' = w :=
  Go.Proofs.Any.bits_Mul64 laysMul64 x y hx hy w
end Go.Proofs.Ytaehehoeidnidaa
