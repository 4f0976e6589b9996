/- Package stats, the middle: the law walked, at every argument. No condition but the arguments' own. -/
import Derived.Test.YtmnjgoicppknjaaMidZ
namespace Go.Proofs.Ytmnjgoicppknjaa
open Go.ChangeShapes Go.WideShapes Go.ChangeAt Go.RowKit
set_option linter.unusedVariables false

theorem StatsMiddle_walk (A0 : Option Addr) (z0 : List Int) (c0 : Nat) (A1 : Option Addr) (z1 : List Int) (c1 : Nat) (w : World)
    (hc0 : z0.length ≤ c0) (hm0 : c0 ≤ maxLen) (_hw0 : ∀ n, n ∈ z0 → (Lit.int .i64 n).wf = true) (s0 : Seg w w.heap.size A0 (z0.map (.int .i64)))
    (hc1 : z1.length ≤ c1) (hm1 : c1 ≤ maxLen) (_hw1 : ∀ n, n ∈ z1 → (Lit.int .i64 n).wf = true) (s1 : Seg w w.heap.size A1 (z1.map (.int .i64))) :
    Calls Try.prog 12 #[.slice A0 z0.length c0, .slice A1 z1.length c1] w fun e w' => e = .returned (.bool true) ∧ Below w.heap.size w w' := by
  unfold maxLen at hm0 hm1
  exact StatsMiddle_core A0 A1 z0 z1 c0 c1 w s0 s1 (by omega) (by omega)
end Go.Proofs.Ytmnjgoicppknjaa
