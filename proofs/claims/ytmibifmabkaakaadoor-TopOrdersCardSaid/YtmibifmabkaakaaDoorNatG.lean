/- Words divided by a word: plain; nat.Div, walked. No condition but that the words are words. -/
import Derived.Test.YtmibifmabkaakaaDoorNatF
import Derived.Test.YtmibifmabkaakaaDoorNatX
namespace Go.Proofs.YtmibifmabkaakaaDoor
open Go.ChangeShapes Go.WideShapes Go.ChangeAt Go.RowKit
set_option linter.unusedVariables false

def WInv (f out : Nat → Nat) (y N K r : Nat) : Prop := gok out N ∧ (∀ i, i < K → out i = 0) ∧ r < y ∧ y * gv out N + r * wB ^ K + gv f K = gv f N
section
variable {f out : Nat → Nat} {y N k r : Nat}
theorem WInv.first (f : Nat → Nat) (N : Nat) (hy : 0 < y) : WInv f (fun _ => 0) y N N 0 := ⟨fun _ _ => (show 0 < wB by decide), fun _ _ => rfl, hy, by rw [gv_zero fun _ _ => rfl]; simp⟩
theorem WInv.step (h : WInv f out y N (k + 1) r) (hk : k < N) (hf : f k < 18446744073709551616) :
    (r * 18446744073709551616 + f k) / y < 18446744073709551616 ∧ WInv f (upd out k ((r * 18446744073709551616 + f k) / y)) y N k ((r * 18446744073709551616 + f k) % y) := by
  obtain ⟨h1, h2, h3, h4⟩ := h
  have h5 : (r * 18446744073709551616 + f k) / y < 18446744073709551616 := by
    rw [Nat.div_lt_iff_lt_mul (by omega)]
    have : (r + 1) * 18446744073709551616 ≤ y * 18446744073709551616 := Nat.mul_le_mul_right _ h3
    omega
  refine ⟨h5, updw_ok h1 h5, fun i hi => ?_, Nat.mod_lt _ (by omega), ?_⟩
  · rw [upd_other (by omega)]; exact h2 i (by omega)
  · have e2 := upd_gv (h := out) (v := (r * 18446744073709551616 + f k) / y) hk
    rw [h2 k (by omega), Nat.zero_mul, Nat.add_zero] at e2
    rw [← h4, e2, wp_succ']
    show _ = _ + (gv f k + f k * wB ^ k)
    have e3 := Nat.div_add_mod (r * 18446744073709551616 + f k) y
    generalize (r * 18446744073709551616 + f k) / y = q at *
    generalize (r * 18446744073709551616 + f k) % y = r' at *
    have e4 : (y * q + r') * wB ^ k = (r * 18446744073709551616 + f k) * wB ^ k := by rw [e3]
    rw [Nat.add_mul, Nat.add_mul, Nat.mul_assoc, Nat.mul_assoc r, Nat.mul_comm 18446744073709551616 (wB ^ k)] at e4
    rw [Nat.mul_add]
    omega
theorem WInv.last (h : WInv f out y N 0 r) : gv out N = gv f N / y ∧ r = gv f N % y := by
  obtain ⟨h1, h2, h3, h4⟩ := h
  have e : y * gv out N + r = gv f N := by rw [← h4]; simp [gv]
  rw [← e, Nat.mul_add_div (by omega), Nat.div_eq_of_lt h3, Nat.mul_add_mod, Nat.mod_eq_of_lt h3]
  exact ⟨rfl, rfl⟩
end
end Go.Proofs.YtmibifmabkaakaaDoor
