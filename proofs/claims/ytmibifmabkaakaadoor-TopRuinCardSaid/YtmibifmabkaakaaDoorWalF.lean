/- The law WalkCounts: package walk's free. No condition but the bounds. -/
import Derived.Test.YtmibifmabkaakaaDoorWalW
import Derived.Test.YtmibifmabkaakaaDoorComO
namespace Go.Proofs.YtmibifmabkaakaaDoor
open Go.ChangeShapes Go.WideShapes Go.ChangeAt Go.RowKit
set_option linter.unusedVariables false

theorem tm2_ne {x : Int} (h : x % 2 ≠ 0) : ¬ x.tmod 2 = 0 := by
  by_cases hz : x.tmod 2 = 0
  · exfalso; have := Int.dvd_of_tmod_eq_zero hz; omega
  · exact hz
theorem tm2_eq {x : Int} (h : x % 2 = 0) : x.tmod 2 = 0 := Int.tmod_eq_zero_of_dvd (by omega)
set_option maxRecDepth 20000 in
set_option maxHeartbeats 400000 in
theorem free_any (n : Nat) (d : Int) (w : World) (hn : n ≤ 56) (h1 : -100000 ≤ d) (h2 : d ≤ 100000) :
    Calls Tryd.prog 60 #[.int .i64 n, .int .i64 d] w fun e w' => e = .returned (.int .i64 (ffr n d)) ∧ ∃ m, w' = w.drewN m := by
  rcases (by omega : ((n : Int) + d) % 2 ≠ 0 ∨ (((n : Int) + d) % 2 = 0 ∧ (n : Int) < d) ∨ (((n : Int) + d) % 2 = 0 ∧ ¬ (n : Int) < d ∧ d < -(n : Int)) ∨ (((n : Int) + d) % 2 = 0 ∧ ¬ (n : Int) < d ∧ ¬ d < -(n : Int))) with h | ⟨h, g⟩ | ⟨h, g, g2⟩ | ⟨h, g, g2⟩
  · have HF : Hid (ffr n d = 0) := ffr_odd n d h
    have b0 : (((n : Int) + d).tmod 2 != 0) = true := by simpa using tm2_ne h
    clear h
    go_enter Tryd.func60, Tryd.ntmps60
    go_wp2_with fail
    go_ret
    exact ⟨by rw [HF.out]; rfl, 0, rfl⟩
  · have HF : Hid (ffr n d = 0) := ffr_far n d (.inl g)
    have b0 : (((n : Int) + d).tmod 2 != 0) = false := by simpa using tm2_eq h
    have b1 : decide ((n : Int) < d) = true := decide_eq_true g
    clear h g
    go_enter Tryd.func60, Tryd.ntmps60
    go_wp2_with fail
    go_ret
    exact ⟨by rw [HF.out]; rfl, 0, rfl⟩
  · have HF : Hid (ffr n d = 0) := ffr_far n d (.inr g2)
    have b0 : (((n : Int) + d).tmod 2 != 0) = false := by simpa using tm2_eq h
    have b1 : decide ((n : Int) < d) = false := decide_eq_false g
    have b2 : decide (d < -(n : Int)) = true := decide_eq_true g2
    clear h g g2
    go_enter Tryd.func60, Tryd.ntmps60
    go_wp2_with fail
    go_ret
    exact ⟨by rw [HF.out]; rfl, 0, rfl⟩
  · obtain ⟨k, hk⟩ : ∃ k : Nat, (n : Int) + d = 2 * (k : Int) := ⟨(((n : Int) + d) / 2).toNat, by omega⟩
    have HF : Hid (ffr n d = ebin n k) := by unfold Hid; rw [show d = 2 * (k : Int) - n by omega, ffr_bin, ebin_nat]
    have hq : ((n : Int) + d).tdiv 2 = (k : Int) := by rw [hk]; simp
    have HN := Lib.hid hn
    have wk : wrap64 (k : Int) = k := dw64 (by omega) (by omega)
    have b0 : (((n : Int) + d).tmod 2 != 0) = false := by simpa using tm2_eq h
    have b1 : decide ((n : Int) < d) = false := decide_eq_false g
    have b2 : decide (d < -(n : Int)) = false := decide_eq_false g2
    clear h g g2 hk
    go_enter Tryd.func60, Tryd.ntmps60
    go_wp2_with fail
    refine (cof_ok n k _ (by omega) (by have := HN.out; omega) (by omega)).mono ?_
    rintro e w' ⟨rfl, m, rfl⟩
    go_wp2_with fail
    go_ret
    exact ⟨by rw [HF.out]; rfl, m, rfl⟩
end Go.Proofs.YtmibifmabkaakaaDoor
