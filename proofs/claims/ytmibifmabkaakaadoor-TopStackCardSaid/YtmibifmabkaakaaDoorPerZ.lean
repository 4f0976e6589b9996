/- PermRanks: the law's function, walked. No condition. -/
import Derived.Test.YtmibifmabkaakaaDoorPerK
import Derived.Test.YtmibifmabkaakaaDoorPerA
import Derived.Test.YtmibifmabkaakaaDoorPerB
import Derived.Test.YtmibifmabkaakaaDoorPerD
import Derived.Test.YtmibifmabkaakaaDoorSeqE
namespace Go.Proofs.YtmibifmabkaakaaDoor
open Go.ChangeShapes Go.WideShapes Go.ChangeAt Go.RowKit
set_option linter.unusedVariables false

theorem at_any (n r : Int) (w : World) (hr : r ≤ 9223372036854775807) :
    Calls Tryd.prog 12 #[.int .i64 n, .int .i64 r] w fun e w' => SOut w w' e (atL n r) (atE n r) := by
  by_cases h : 0 ≤ n ∧ n ≤ 20 ∧ 0 ≤ r
  · obtain ⟨N, rfl⟩ : ∃ N : Nat, n = N := ⟨n.toNat, by omega⟩
    obtain ⟨R, rfl⟩ : ∃ R : Nat, r = R := ⟨r.toNat, by omega⟩
    exact at_ok N R w (by omega) hr
  · exact at_bad n r w h
theorem atL_len (n r : Int) : (atL n r).length ≤ 20 := by
  unfold atL
  split
  · rw [ot_len]; omega
  · exact Nat.zero_le _
theorem wf_bd {n : Int} (h : (Lit.int .i64 n).wf = true) : -9223372036854775808 ≤ n ∧ n ≤ 9223372036854775807 := by
  simp [Lit.wf, IntKind.min, IntKind.max, IntKind.bits, IntKind.signed] at h; omega
end Go.Proofs.YtmibifmabkaakaaDoor
