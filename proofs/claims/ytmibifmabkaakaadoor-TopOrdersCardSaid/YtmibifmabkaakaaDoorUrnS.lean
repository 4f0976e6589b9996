/- Package urns: Sums and Spread, walked. No condition. -/
import Derived.Test.YtmibifmabkaakaaDoorComW
import Derived.Test.YtmibifmabkaakaaDoorUrnQ
import Derived.Test.YtmibifmabkaakaaDoorUrnW
namespace Go.Proofs.YtmibifmabkaakaaDoor
open Go.ChangeShapes Go.WideShapes Go.ChangeAt Go.RowKit

def cofp (n k : Int) : Int × Int := if n < 0 ∨ 60 < n ∨ k < 0 then (0, 2) else (cof n k, 0)
set_option maxRecDepth 20000 in
set_option maxHeartbeats 2000000 in
theorem cOf_any (n k : Int) (w : World) :
    Calls Tryd.prog 14 #[.int .i64 n, .int .i64 k] w fun e w' => e = .returned (.tuple #[.int .i64 (cofp n k).1, .int .i64 (cofp n k).2]) ∧ ∃ m, w' = w.drewN m := by
  by_cases h1 : n < 0
  · have hf : Hid (cofp n k = (0, 2)) := if_pos (.inl h1)
    go_enter Tryd.func14, Tryd.ntmps14
    go_wp2
    go_ret2
    exact ⟨ret_2 hf.out, 0, rfl⟩
  by_cases h2 : 60 < n
  · have hf : Hid (cofp n k = (0, 2)) := if_pos (.inr (.inl h2))
    go_enter Tryd.func14, Tryd.ntmps14
    go_wp2
    go_ret2
    exact ⟨ret_2 hf.out, 0, rfl⟩
  by_cases h3 : k < 0
  · have hf : Hid (cofp n k = (0, 2)) := if_pos (.inr (.inr h3))
    go_enter Tryd.func14, Tryd.ntmps14
    go_wp2
    go_ret2
    exact ⟨ret_2 hf.out, 0, rfl⟩
  have hf : Hid (cofp n k = (cof n k, 0)) := if_neg (by omega)
  go_enter Tryd.func14, Tryd.ntmps14
  go_wp2_with fail
  refine (cof_any n k _ (by omega) (by omega)).mono ?_
  rintro e w1 ⟨rfl, m, rfl⟩
  go_wp2
  go_ret2
  exact ⟨ret_2 hf.out, m, rfl⟩

def usums (n k : Int) : Int × Int := if n < 0 ∨ 60 < n ∨ k < 0 ∨ 60 < k then (0, 2) else ((vs k.toNat n.toNat n.toNat : Nat), 0)
def uspread (n k : Int) : Int × Int := if n < 0 ∨ k < 0 ∨ 60 < n + k then (0, 2) else if k = 0 then (if n = 0 then 1 else 0, 0) else (ebin (n + k - 1) n, 0)
end Go.Proofs.YtmibifmabkaakaaDoor
