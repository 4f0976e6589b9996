/- Package dice and the reference: Right and TRight, walked. No condition but the list's own length. -/
import Derived.Test.YtmibifmabkaakaaDoorDicM
import Derived.IntWalk
namespace Go.Proofs.YtmibifmabkaakaaDoor
open Go.ChangeShapes Go.WideShapes Go.ChangeAt Go.RowKit
set_option linter.unusedVariables false

theorem dw64 {x : Int} (h1 : -9223372036854775808 ≤ x) (h2 : x ≤ 9223372036854775807) : wrap64 x = x := by unfold wrap64; omega
theorem dk64 {k : Nat} (h : k < 9223372036854775807) : wrap64 ((k : Int) + 1) = ((k + 1 : Nat) : Int) := by unfold wrap64; omega
theorem Seg.dk {w : World} {B : Nat} {A : Option Addr} {l : List Int} (h : Seg w B A (l.map (.int .i64))) {k : Nat} (hk : k < l.length) : ∃ ad, A = some ad ∧ ad.block < B ∧ w.cell? (ad.add k) = some (.int .i64 (Proofs.YtmibifmabkaakaaDoor.dk l k)) := by
  rw [dk_get hk]; exact h.int hk
end Go.Proofs.YtmibifmabkaakaaDoor
