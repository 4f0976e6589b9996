/- Digits shifted to the left: plain. No condition. -/
import Derived.Test.YtkffakekakhgdaaBigX
namespace Go.Proofs.Ytkffakekakhgdaa

/-- How the digits stand, behind k of them. -/
def SInv (f h : Nat → Nat) (r q N k : Nat) : Prop :=
  fok h N ∧ (∀ i, k + q < i → h i = 0) ∧ h (k + q) < 2 ^ r ∧ fv h N = fv f k * 2 ^ r * bp q
section
variable {f h : Nat → Nat} {r q N k : Nat}
theorem SInv.first (f : Nat → Nat) (r q N : Nat) : SInv f (fun _ => 0) r q N 0 := ⟨fun _ _ => (show 0 < 4294967296 by decide), fun _ _ => rfl, Nat.pow_pos (by decide), by rw [fv_zero fun _ _ => rfl]; simp [fv]⟩
theorem pow_r {r : Nat} (hr : r < 32) : 2 ^ r * 2 ^ (32 - r) = 4294967296 ∧ 0 < 2 ^ r ∧ 0 < 2 ^ (32 - r) := by
  refine ⟨?_, Nat.pow_pos (by decide), Nat.pow_pos (by decide)⟩
  rw [← Nat.pow_add, show r + (32 - r) = 32 by omega]
theorem shl_lt {a r : Nat} (hr : r < 32) (ha : a < 4294967296) : a * 2 ^ r < 9223372036854775808 ∧ a * 2 ^ r / 4294967296 < 2 ^ r := by
  obtain ⟨h1, h2, h3⟩ := pow_r hr
  have h4 : 2 ^ r ≤ 2 ^ 31 := Nat.pow_le_pow_right (by decide) (by omega)
  have h5 : a * 2 ^ r ≤ 4294967295 * 2 ^ 31 := Nat.mul_le_mul (by omega) h4
  refine ⟨by omega, ?_⟩
  rw [Nat.div_lt_iff_lt_mul (by decide), Nat.mul_comm (2 ^ r)]
  exact Nat.mul_lt_mul_of_pos_right ha h2
theorem SInv.low (h1 : SInv f h r q N k) (hr : r < 32) : h (k + q) + f k * 2 ^ r % 4294967296 < 4294967296 ∧ f k * 2 ^ r % 4294967296 % 2 ^ r = 0 := by
  obtain ⟨e, p1, p2⟩ := pow_r hr
  have h3 := h1.2.2.1
  have h4 : f k * 2 ^ r % 4294967296 = f k % 2 ^ (32 - r) * 2 ^ r := by rw [← e, Nat.mul_comm (2 ^ r), Nat.mul_mod_mul_right]
  rw [h4]
  refine ⟨?_, Nat.mul_mod_left _ _⟩
  have h5 := Nat.mod_lt (f k) p2
  have h6 : (f k % 2 ^ (32 - r) + 1) * 2 ^ r ≤ 2 ^ (32 - r) * 2 ^ r := Nat.mul_le_mul_right _ h5
  rw [Nat.mul_comm (2 ^ (32 - r)), e, Nat.add_mul, Nat.one_mul] at h6
  omega
theorem SInv.step (h1 : SInv f h r q N k) (hr : r < 32) (hf : f k < 4294967296) (hk : k + q + 1 < N) :
    SInv f (upd (upd h (k + q) (h (k + q) + f k * 2 ^ r % 4294967296)) (k + q + 1) (f k * 2 ^ r / 4294967296)) r q N (k + 1) := by
  have hl := (h1.low hr).1
  obtain ⟨h2, h3, h4, h5⟩ := h1
  obtain ⟨b1, b2⟩ := shl_lt hr hf
  refine ⟨upd_ok (upd_ok h2 hl) (by omega), fun i hi => ?_, ?_, ?_⟩
  · rw [upd_other (by omega), upd_other (by omega)]; exact h3 i (by omega)
  · rw [show k + 1 + q = k + q + 1 by omega, upd_same]; exact b2
  · have e1 := upd_fv (h := h) (v := h (k + q) + f k * 2 ^ r % 4294967296) (show k + q < N by omega)
    have e2 := upd_fv (h := upd h (k + q) (h (k + q) + f k * 2 ^ r % 4294967296)) (v := f k * 2 ^ r / 4294967296) hk
    rw [upd_other (by omega), h3 (k + q + 1) (by omega), Nat.zero_mul, Nat.add_zero] at e2
    rw [e2]
    show _ = (fv f k + f k * bp k) * 2 ^ r * bp q
    have e3 : (fv f k + f k * bp k) * 2 ^ r * bp q = fv f k * 2 ^ r * bp q + f k * 2 ^ r * bp (k + q) := by
      rw [Nat.add_mul, Nat.add_mul, bp_add, Nat.mul_right_comm (f k) (bp k), Nat.mul_assoc (f k * 2 ^ r)]
    have e4 : f k * 2 ^ r * bp (k + q) = f k * 2 ^ r % 4294967296 * bp (k + q) + f k * 2 ^ r / 4294967296 * bp (k + q + 1) := by
      rw [bp_succ]
      generalize f k * 2 ^ r = s
      have := Nat.div_add_mod s 4294967296
      generalize s / 4294967296 = x at *
      generalize s % 4294967296 = y at *
      subst this
      rw [Nat.add_mul, Nat.mul_comm 4294967296 x, Nat.mul_assoc x, Nat.mul_comm 4294967296 (bp (k + q))]
      omega
    rw [Nat.add_mul] at e1
    rw [e3, e4, ← h5]
    omega
end
end Go.Proofs.Ytkffakekakhgdaa
