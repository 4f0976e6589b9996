/- Digits shifted to the right: plain. No condition. -/
import Derived.Test.YtkffakekakhgdaaBigK
namespace Go.Proofs.Ytkffakekakhgdaa

/-- A digit of what is shifted by r bits. -/
def rdig (f : Nat → Nat) (r k : Nat) : Nat := f k / 2 ^ r + f (k + 1) % 2 ^ r * 2 ^ (32 - r)
theorem rdig_lt {a b r : Nat} (hr : r < 32) (ha : a < 4294967296) : a / 2 ^ r + b % 2 ^ r * 2 ^ (32 - r) < 4294967296 ∧ a / 2 ^ r < 2 ^ (32 - r) := by
  obtain ⟨e, p1, p2⟩ := pow_r hr
  have h1 : a / 2 ^ r < 2 ^ (32 - r) := by
    rw [Nat.div_lt_iff_lt_mul p1, Nat.mul_comm, e]; exact ha
  have h2 := Nat.mod_lt b p1
  have h3 : (b % 2 ^ r + 1) * 2 ^ (32 - r) ≤ 2 ^ r * 2 ^ (32 - r) := Nat.mul_le_mul_right _ h2
  rw [e, Nat.add_mul, Nat.one_mul] at h3
  exact ⟨by omega, h1⟩
theorem rdig_ok {f : Nat → Nat} {r n : Nat} (hr : r < 32) (hf : fok f n) : fok (rdig f r) n := fun i hi => (rdig_lt hr (hf i hi)).1
theorem rdig_inv (f : Nat → Nat) {r : Nat} (hr : r < 32) (k : Nat) : fv (rdig f r) k * 2 ^ r + f 0 % 2 ^ r = fv f k + f k % 2 ^ r * bp k := by
  obtain ⟨e, p1, p2⟩ := pow_r hr
  induction k with
  | zero => simp [fv, bp]
  | succ k ih =>
    show (fv (rdig f r) k + rdig f r k * bp k) * 2 ^ r + f 0 % 2 ^ r = fv f k + f k * bp k + f (k + 1) % 2 ^ r * bp (k + 1)
    have h1 : rdig f r k * 2 ^ r + f k % 2 ^ r = f k + f (k + 1) % 2 ^ r * 4294967296 := by
      unfold rdig
      rw [Nat.add_mul, Nat.mul_assoc (f (k + 1) % 2 ^ r), Nat.mul_comm (2 ^ (32 - r)), e]
      have := Nat.div_add_mod (f k) (2 ^ r)
      rw [Nat.mul_comm] at this
      omega
    have h2 : (rdig f r k * 2 ^ r + f k % 2 ^ r) * bp k = (f k + f (k + 1) % 2 ^ r * 4294967296) * bp k := by rw [h1]
    rw [Nat.add_mul, Nat.add_mul, Nat.mul_right_comm (rdig f r k), Nat.mul_assoc (f (k + 1) % 2 ^ r), Nat.mul_comm 4294967296] at h2
    rw [Nat.add_mul, bp_succ]
    omega
theorem rdig_dv {f : Nat → Nat} {r n : Nat} (hr : r < 32) (h0 : f n = 0) : fv (rdig f r) n = fv f n / 2 ^ r := by
  obtain ⟨e, p1, p2⟩ := pow_r hr
  have h := rdig_inv f hr n
  rw [h0, Nat.zero_mod, Nat.zero_mul, Nat.add_zero] at h
  rw [← h, Nat.mul_comm, Nat.mul_add_div p1, Nat.div_eq_of_lt (Nat.mod_lt _ p1), Nat.add_zero]
/-- The digits from the q-th one on. -/
theorem dv_drop {zs : List Nat} (h : dok zs) {q : Nat} (hq : q ≤ zs.length) : fv (fun i => gd zs (q + i)) (zs.length - q) = dv zs / bp q := by
  unfold dv
  obtain ⟨d, hd⟩ := Nat.exists_eq_add_of_le hq
  rw [show zs.length - q = d by omega, hd, fv_add, Nat.add_comm, Nat.mul_add_div (bp_pos q), Nat.div_eq_of_lt (fv_lt (h.mono hq)), Nat.add_zero]
theorem shr_dv {zs : List Nat} (h : dok zs) {q r : Nat} (hq : q < zs.length) (hr : r < 32) : fv (rdig (fun i => gd zs (q + i)) r) (zs.length - q) = dv zs / 2 ^ (32 * q + r) := by
  have h0 : (fun i => gd zs (q + i)) (zs.length - q) = 0 := gd_ge (by omega)
  rw [rdig_dv (f := fun i => gd zs (q + i)) hr h0, dv_drop h (by omega), Nat.pow_add, ← Nat.div_div_eq_div_mul, Nat.pow_mul]
  rfl
theorem shr_none {zs : List Nat} (h : dok zs) {q r : Nat} (hq : zs.length ≤ q) : dv zs / 2 ^ (32 * q + r) = 0 := by
  refine Nat.div_eq_of_lt (Nat.lt_of_lt_of_le (dv_lt h) ?_)
  refine Nat.le_trans (bp_le hq) ?_
  unfold bp
  rw [Nat.pow_add, Nat.pow_mul]
  exact Nat.le_mul_of_pos_right _ (Nat.pow_pos (by decide))
end Go.Proofs.Ytkffakekakhgdaa
