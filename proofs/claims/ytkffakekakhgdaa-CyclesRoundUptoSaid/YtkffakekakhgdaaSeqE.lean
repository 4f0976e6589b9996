/- A slice of numbers and another one with the same numbers are equal. No condition. -/
import Derived.Test.YtkffakekakhgdaaSeq
import Derived.Test.YtkffakekakhgdaaEqints
namespace Go.Proofs.Ytkffakekakhgdaa
open Go.ChangeShapes Go.WideShapes Go.ChangeAt Go.RowKit

theorem eq_same (l : List Int) (A C : Option Addr) (c d : Nat) (w : World) (h1 : Seg w w.heap.size A (l.map (.int .i64))) (h2 : Seg w w.heap.size C (l.map (.int .i64))) (hl : l.length ≤ 9223372036854775807) :
    Calls Try.prog 21 #[.slice A l.length c, .slice C l.length d] w fun e w' => e = .returned (.bool true) ∧ ∃ n, w' = w.drewN n := by
  have h := eq_ints l l A C c d _ w h1 h2 hl
  rwa [decide_eq_true rfl] at h
end Go.Proofs.Ytkffakekakhgdaa
