/- Numbers of words: what is not right is told, walked. Printed by natbad.py. No condition. -/
import Derived.Test.YtmibifmabkaakaaDoorNatU
namespace Go.Proofs.YtmibifmabkaakaaDoor
open Go.ChangeShapes Go.WideShapes Go.ChangeAt Go.RowKit
set_option linter.unusedVariables false

set_option maxRecDepth 20000 in
set_option maxHeartbeats 1000000 in
theorem nmul_bad (A C : Option Addr) (a b : List Nat) (c d B : Nat) (w : World) (hs : Seg w B A (u64s a)) (ht : Seg w B C (u64s b)) (h : ¬ (nright a ∧ nright b)) :
    Calls Tryd.prog 16 #[.slice A a.length c, .slice C b.length d] w fun e w' => e = .returned (.tuple #[.slice none 0 0, .int .i64 1]) ∧ w' = w := by
  have HRa := Lib.hid (nright_any A a c B w hs)
  have HRb := Lib.hid (nright_any C b d B w ht)
  clear hs ht
  by_cases ra : nright a
  · rw [decide_eq_true ra] at HRa
    rw [decide_eq_false (fun rb => h ⟨ra, rb⟩)] at HRb
    clear h ra
    go_enter Tryd.func16, Tryd.ntmps16
    go_wp2_with fail
    refine HRa.out.mono ?_
    rintro e w1 ⟨rfl, rfl⟩
    go_wp2_with fail
    refine HRb.out.mono ?_
    rintro e w2 ⟨rfl, rfl⟩
    go_wp2_with fail
    go_ret2
    exact ⟨rfl, rfl⟩
  · rw [decide_eq_false ra] at HRa
    clear h ra
    go_enter Tryd.func16, Tryd.ntmps16
    go_wp2_with fail
    refine HRa.out.mono ?_
    rintro e w1 ⟨rfl, rfl⟩
    go_wp2_with fail
    go_ret2
    exact ⟨rfl, rfl⟩
end Go.Proofs.YtmibifmabkaakaaDoor
