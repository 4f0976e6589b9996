/- Pools joined: the law walked, at every argument. No condition but the arguments' own. -/
import Derived.Test.YtmnjgoicppknjaaJoiN
import Derived.Test.YtmnjgoicppknjaaJoiO
import Derived.Test.YtmnjgoicppknjaaPoolO
namespace Go.Proofs.Ytmnjgoicppknjaa
open Go.ChangeShapes Go.WideShapes Go.ChangeAt Go.RowKit
set_option linter.unusedVariables false

theorem jwf_bd {k : Int} (h : (Lit.int .i64 k).wf = true) : -9223372036854775808 ≤ k ∧ k ≤ 9223372036854775807 := by
  simp [Lit.wf, IntKind.min, IntKind.max, IntKind.bits, IntKind.signed] at h
  omega
theorem JoinPools_walk (x0 x1 : Int × Int × Option Addr × List Int × Nat) (A2 : Option Addr) (z2 : List Int) (c2 : Nat) (A3 : Option Addr) (z3 : List Int) (c3 : Nat) (a4 a5 a6 a7 : Int) (w : World)
    (s0 : Seg w w.heap.size x0.2.2.1 (x0.2.2.2.1.map (.int .i64))) (s1 : Seg w w.heap.size x1.2.2.1 (x1.2.2.2.1.map (.int .i64)))
    (hc2 : z2.length ≤ c2) (hm2 : c2 ≤ maxLen) (hw2 : ∀ n, n ∈ z2 → (Lit.int .i64 n).wf = true) (s2 : Seg w w.heap.size A2 (z2.map (.int .i64)))
    (hc3 : z3.length ≤ c3) (hm3 : c3 ≤ maxLen) (hw3 : ∀ n, n ∈ z3 → (Lit.int .i64 n).wf = true) (s3 : Seg w w.heap.size A3 (z3.map (.int .i64)))
    (w4 : (Lit.int .i64 a4).wf = true) (w5 : (Lit.int .i64 a5).wf = true) (w6 : (Lit.int .i64 a6).wf = true) (w7 : (Lit.int .i64 a7).wf = true) :
    Calls Try.prog 3 #[PoolV x0.1 x0.2.1 (.slice x0.2.2.1 x0.2.2.2.1.length x0.2.2.2.2), PoolV x1.1 x1.2.1 (.slice x1.2.2.1 x1.2.2.2.1.length x1.2.2.2.2), .slice A2 z2.length c2, .slice A3 z3.length c3, .int .i64 a4, .int .i64 a5, .int .i64 a6, .int .i64 a7] w fun e w' => e = .returned (.bool true) ∧ Below w.heap.size w w' := by
  have hwx : ∀ i, -9223372036854775808 ≤ pat z3 i ∧ pat z3 i ≤ 9223372036854775807 := fun i => by
    by_cases h : i < z3.length
    · rw [pat_get h]; exact jwf_bd (hw3 _ (List.getElem_mem h))
    · simp [pat, List.getD, Nat.le_of_not_lt h]
  refine JoinPools_core x0.2.2.1 x1.2.2.1 A2 A3 x0.1 x0.2.1 x1.1 x1.2.1 a4 a5 a6 a7 _ _ _ _ _ _ c2 c3 w (jpR x0.1 x0.2.1 x0.2.2.2.1 x1.1 x1.2.1 x1.2.2.2.1 z2 z3) (jpR_len _ _ _ _ _ _ _ _) (jwf_bd w4) (jwf_bd w5) (jwf_bd w6) (jwf_bd w7) (fun u hu => ?_) (fun u hu => ?_)
  · exact jp_any _ _ _ _ _ _ _ _ _ _ _ _ _ _ _ _ u ((s0.below hu).more hu.size) ((s1.below hu).more hu.size) ((s2.below hu).more hu.size) ((s3.below hu).more hu.size) hwx
  · exact jg_any _ _ _ _ _ _ _ _ _ _ _ _ _ _ _ _ u ((s0.below hu).more hu.size) ((s1.below hu).more hu.size) ((s2.below hu).more hu.size) ((s3.below hu).more hu.size) hwx
end Go.Proofs.Ytmnjgoicppknjaa
