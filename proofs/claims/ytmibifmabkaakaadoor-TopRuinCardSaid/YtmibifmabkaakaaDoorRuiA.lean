/- Package ruin: the greatest common divisor, walked. No condition but that the numbers are not below 0. -/
import Derived.Test.YtmibifmabkaakaaDoorSeq
import Derived.BigQuiet
import Derived.IntWalk
namespace Go.Proofs.YtmibifmabkaakaaDoor
open Go.ChangeShapes Go.WideShapes Go.ChangeAt Go.RowKit
set_option linter.unusedVariables false

theorem rgcd_step (p q : Nat) : Nat.gcd q (p % q) = Nat.gcd p q := by
  rw [Nat.gcd_comm q (p % q), ← Nat.gcd_rec, Nat.gcd_comm]
theorem rrem {c d : Nat} (h : 0 < d) : Int.tmod (c : Int) (d : Int) = ((c % d : Nat) : Int) := by
  rw [Int.tmod_eq_emod_of_nonneg (by omega)]; rfl
set_option maxRecDepth 20000 in
set_option maxHeartbeats 1000000 in
theorem rgcd_any (p q : Nat) (w : World) (hp : p ≤ 9223372036854775807) (hq : q ≤ 9223372036854775807) :
    Calls Tryd.prog 62 #[.int .i64 p, .int .i64 q] w fun e w' => e = .returned (.int .i64 (Nat.gcd p q : Nat)) ∧ ∃ m, w' = w.drewN m := by
  have HU := Lib.hid (And.intro hp hq)
  clear hp hq
  go_enter Tryd.func62, Tryd.ntmps62
  go_wp2_with fail
  go_loopw [0, 1] (fun s0 s1 wx => ∃ c d m : Nat, s0 = .int .i64 c ∧ s1 = .int .i64 d ∧ Hid (Nat.gcd c d = Nat.gcd p q) ∧ c ≤ 9223372036854775807 ∧ d ≤ 9223372036854775807 ∧ wx = w.drewN m) (fun _ s1 _ => (intOf s1).toNat)
  case atStart => exact ⟨p, q, 0, rfl, rfl, rfl, HU.out.1, HU.out.2, by first | rfl | simp⟩
  case round =>
    obtain ⟨c, d, m, rfl, rfl, hcd, hc, hd, rfl⟩ := hrel
    by_cases hd0 : d = 0
    · have HR : Hid (Nat.gcd p q = c) := by unfold Hid; rw [← hcd.out, hd0, Nat.gcd_zero_right]
      have i0 : ¬ 0 < (d : Int) := by omega
      clear hd0 hc hd
      go_wp2_with fail
      go_ret
      exact ⟨by rw [HR.out]; rfl, m, rfl⟩
    · have i0 : 0 < (d : Int) := by omega
      have hu := rrem (c := c) (d := d) (by omega)
      have hlt : c % d < d := Nat.mod_lt _ (by omega)
      have hst : Hid (Nat.gcd d (c % d) = Nat.gcd p q) := by unfold Hid; rw [rgcd_step, hcd.out]
      have hz : ¬ (d : Int) = 0 := by omega
      have HDD := Lib.hid (And.intro hlt hd)
      generalize c % d = r at *
      have hwr : IntKind.i64.wrap (r : Int) = (r : Int) := IntWalk.i64_in _ (by omega)
      clear hd0 hc hd hlt
      go_wp2_with fail
      go_quiet (fail)
      go_wp2_with fail
      go_roundw
      case rel => exact ⟨d, r, m + nq, rfl, rfl, hst, HDD.out.2, Nat.le_trans (Nat.le_of_lt HDD.out.1) HDD.out.2, by rw [World.drewN_drewN]⟩
      case measure => simp [intOf]; exact HDD.out.1
end Go.Proofs.YtmibifmabkaakaaDoor
