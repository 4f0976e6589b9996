/- The law WalkCounts: told, walked. No condition. -/
import Derived.Test.YtaehehoeidnidaaWalM
namespace Go.Proofs.Ytaehehoeidnidaa
open Go.ChangeShapes Go.WideShapes Go.ChangeAt Go.RowKit Go.Maps
set_option linter.unusedVariables false

set_option maxRecDepth 20000 in
theorem wtold_any (f : Nat) (caps : Array Value) (bad : Bool) (V : Int) (w : World) (eg : ∀ args w, (callFunc f args).run Try.prog w = .ok (.enter f args) w)
    (hc : bad = false → Calls Try.prog f caps w fun e w2 => e = .returned (.int .i64 V) ∧ Below w.heap.size w w2) :
    Calls Try.prog 20 #[.int .i64 (if bad = true then 0 else V), .int .i64 (if bad = true then 2 else 0), .bool bad, .func (.func f) #[] caps] w fun e w2 => e = .returned (.bool true) ∧ Below w.heap.size w w2 := by
  cases bad with
  | true =>
    clear hc
    rw [if_pos rfl, if_pos rfl]
    go_enter Try.func20, Try.ntmps20
    go_wp2_with fail
    go_ret
    exact ⟨rfl, Below.refl _ _⟩
  | false =>
    have HC := Lib.hid (hc rfl)
    clear hc
    rw [if_neg (by simp), if_neg (by simp)]
    go_enter Try.func20, Try.ntmps20
    go_wp2_with fail
    refine HC.out.mono ?_
    rintro e w1 ⟨rfl, hb⟩
    have HB := Lib.hid hb
    clear hb
    go_wp2_with fail
    go_ret
    exact ⟨rfl, HB.out⟩
end Go.Proofs.Ytaehehoeidnidaa
