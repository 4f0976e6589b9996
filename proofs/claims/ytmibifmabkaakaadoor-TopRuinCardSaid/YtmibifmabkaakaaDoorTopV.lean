/- The statement TopRuin, walked at every argument. No condition but the library's tables. -/
import Derived.Test.YtmibifmabkaakaaDoorTopR
namespace Go.Proofs.YtmibifmabkaakaaDoor
open Go.ChangeShapes Go.WideShapes Go.ChangeAt Go.RowKit
set_option linter.unusedVariables false

set_option maxRecDepth 20000 in
set_option maxHeartbeats 4000000 in
theorem ruin_out (t h n : Int) (w : World) (hx : t < 2 ∨ 8 < t ∨ h < 1 ∨ t ≤ h ∨ n < 1 ∨ 10 < n)
    (hA : Calls Tryd.prog 11 #[] w fun e w' => e = .returned (.bool true) ∧ Below w.heap.size w w') :
    Calls Tryd.prog 5 #[.int .i64 t, .int .i64 h, .int .i64 n] w fun e w' => e = .returned (.bool true) ∧ Below w.heap.size w w' := by
  have HA := Lib.hid hA
  clear hA
  rcases (by omega : t < 2 ∨ (¬ t < 2 ∧ 8 < t) ∨ (¬ t < 2 ∧ ¬ 8 < t ∧ h < 1) ∨ (¬ t < 2 ∧ ¬ 8 < t ∧ ¬ h < 1 ∧ t ≤ h) ∨ (¬ t < 2 ∧ ¬ 8 < t ∧ ¬ h < 1 ∧ ¬ t ≤ h ∧ n < 1) ∨ (¬ t < 2 ∧ ¬ 8 < t ∧ ¬ h < 1 ∧ ¬ t ≤ h ∧ ¬ n < 1 ∧ 10 < n)) with h1 | ⟨h1, h2⟩ | ⟨h1, h2, h3⟩ | ⟨h1, h2, h3, h4⟩ | ⟨h1, h2, h3, h4, h5⟩ | ⟨h1, h2, h3, h4, h5, h6⟩
  all_goals
    clear hx
    go_enter Tryd.func5, Tryd.ntmps5
    go_wp2_with fail
    refine HA.out.mono ?_
    rintro e w2 ⟨rfl, hb2⟩
    have HB2 := Lib.hid hb2
    clear hb2
    go_wp2_with fail
    go_ret
    exact ⟨rfl, HB2.out⟩
theorem TopRuin_walk (t h n : Int) (w : World) (wt : (Lit.int .i64 t).wf = true) (wh : (Lit.int .i64 h).wf = true) (wn : (Lit.int .i64 n).wf = true) (hL : LibW w) :
    Calls Tryd.prog 5 #[.int .i64 t, .int .i64 h, .int .i64 n] w fun e w' => e = .returned (.bool true) ∧ Below w.heap.size w w' := by
  have hA := alive_any w hL
  by_cases hx : t < 2 ∨ 8 < t ∨ h < 1 ∨ t ≤ h ∨ n < 1 ∨ 10 < n
  · exact ruin_out t h n w hx hA
  · obtain ⟨T, rfl⟩ : ∃ T : Nat, t = T := ⟨t.toNat, by omega⟩
    obtain ⟨H, rfl⟩ : ∃ H : Nat, h = H := ⟨h.toNat, by omega⟩
    obtain ⟨N, rfl⟩ : ∃ N : Nat, n = N := ⟨n.toNat, by omega⟩
    exact ruin_core T H N w (by omega) (by omega) (by omega) (by omega) (by omega) (by omega) hA
end Go.Proofs.YtmibifmabkaakaaDoor
