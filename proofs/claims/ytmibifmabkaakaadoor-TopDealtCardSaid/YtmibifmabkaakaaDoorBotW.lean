/- bottom.Mix, unshift, inverse and Unmix walked. No condition. -/
import Derived.Test.YtmibifmabkaakaaDoorBotM
import Derived.RegionTactic
import Derived.ChangeAlike
namespace Go.Proofs.YtmibifmabkaakaaDoor
open Go.ChangeShapes Go.WideShapes Go.ChangeAt Go.RowKit
set_option linter.unusedVariables false

theorem mix_any (x : BitVec 64) (w : World) :
    Calls Tryd.prog 72 #[W64 x] w fun e w' => e = .returned (W64 (bmix x)) ∧ w = w' := by
  have s30 := fun y => wv_shr y 30 (n := 1073741824) rfl
  have s27 := fun y => wv_shr y 27 (n := 134217728) rfl
  have s31 := fun y => wv_shr y 31 (n := 2147483648) rfl
  have m1 := fun y => wv_mul_lit y 13787848793156543929#64 (n := 13787848793156543929) rfl
  have m2 := fun y => wv_mul_lit y 10723151780598845931#64 (n := 10723151780598845931) rfl
  have hx := wv_xor
  have HM : Hid (bmix x = mstep (mstep x 30 13787848793156543929#64) 27 10723151780598845931#64 ^^^ (mstep (mstep x 30 13787848793156543929#64) 27 10723151780598845931#64 >>> 31)) := by
    unfold Hid bmix; rw [show ∀ y, mstep y 31 1#64 = y ^^^ (y >>> 31) from fun y => by unfold mstep; rw [BitVec.mul_one]]
  go_enter Tryd.func72, Tryd.ntmps72
  go_wp2_with fail
  go_ret
  exact ⟨by rw [HM.out]; rfl, rfl⟩
end Go.Proofs.YtmibifmabkaakaaDoor
