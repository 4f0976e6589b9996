/- Package drop: the law walked, at every argument. No condition but the arguments' own. -/
import Derived.Test.YtmnjgoicppknjaaDroZ
namespace Go.Proofs.Ytmnjgoicppknjaa
open Go.ChangeShapes Go.WideShapes Go.ChangeAt Go.RowKit
set_option linter.unusedVariables false

theorem dwf_bd {n : Int} (h : (Lit.int .i64 n).wf = true) : -9223372036854775808 ≤ n ∧ n ≤ 9223372036854775807 := by
  simp [Lit.wf, IntKind.min, IntKind.max, IntKind.bits, IntKind.signed] at h; omega
theorem DropLevels_walk (A0 : Option Addr) (z0 : List Int) (c0 : Nat) (a1 a2 : Int) (w : World)
    (hc0 : z0.length ≤ c0) (hm0 : c0 ≤ maxLen) (_hw0 : ∀ n, n ∈ z0 → (Lit.int .i64 n).wf = true) (s0 : Seg w w.heap.size A0 (z0.map (.int .i64))) (w1 : (Lit.int .i64 a1).wf = true) (w2 : (Lit.int .i64 a2).wf = true) :
    Calls Try.prog 13 #[.slice A0 z0.length c0, .int .i64 a1, .int .i64 a2] w fun e w' => e = .returned (.bool true) ∧ Below w.heap.size w w' := by
  unfold maxLen at hm0
  exact DropLevels_core A0 z0 c0 a1 a2 w s0 (by omega) (dwf_bd w2).2
end Go.Proofs.Ytmnjgoicppknjaa
