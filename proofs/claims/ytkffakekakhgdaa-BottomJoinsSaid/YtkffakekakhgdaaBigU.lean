/- The exclusive or of digits: plain. No condition. -/
import Derived.Test.YtkffakekakhgdaaBigX
namespace Go.Proofs.Ytkffakekakhgdaa

theorem bp_two (n : Nat) : bp n = 2 ^ (32 * n) := by
  unfold bp; rw [Nat.pow_mul]
theorem xor_split (k a b c d : Nat) (ha : a < 2 ^ k) (hc : c < 2 ^ k) : (a + b * 2 ^ k) ^^^ (c + d * 2 ^ k) = (a ^^^ c) + (b ^^^ d) * 2 ^ k := by
  have hp : 0 < 2 ^ k := Nat.pow_pos (by decide)
  have h1 : ((a + b * 2 ^ k) ^^^ (c + d * 2 ^ k)) % 2 ^ k = a ^^^ c := by
    rw [Nat.xor_mod_two_pow, Nat.add_mul_mod_self_right, Nat.add_mul_mod_self_right, Nat.mod_eq_of_lt ha, Nat.mod_eq_of_lt hc]
  have h2 : ((a + b * 2 ^ k) ^^^ (c + d * 2 ^ k)) / 2 ^ k = b ^^^ d := by
    rw [Nat.xor_div_two_pow, Nat.add_mul_div_right _ _ hp, Nat.add_mul_div_right _ _ hp, Nat.div_eq_of_lt ha, Nat.div_eq_of_lt hc, Nat.zero_add, Nat.zero_add]
  have h3 := Nat.div_add_mod ((a + b * 2 ^ k) ^^^ (c + d * 2 ^ k)) (2 ^ k)
  rw [h1, h2] at h3
  rw [← h3, Nat.mul_comm, Nat.add_comm]
theorem fv_xor {f g : Nat → Nat} {n : Nat} (hf : fok f n) (hg : fok g n) : fv (fun i => f i ^^^ g i) n = fv f n ^^^ fv g n := by
  induction n with
  | zero => simp [fv]
  | succ n ih =>
    show fv (fun i => f i ^^^ g i) n + (f n ^^^ g n) * bp n = (fv f n + f n * bp n) ^^^ (fv g n + g n * bp n)
    have h1 := fv_lt (hf.mono (m := n) (by omega))
    have h2 := fv_lt (hg.mono (m := n) (by omega))
    rw [ih (hf.mono (by omega)) (hg.mono (by omega))]
    rw [bp_two] at h1 h2 ⊢
    rw [xor_split _ _ _ _ _ h1 h2]
theorem xor_ok {f g : Nat → Nat} {n : Nat} (hf : fok f n) (hg : fok g n) : fok (fun i => f i ^^^ g i) n := fun i hi => Nat.xor_lt_two_pow (n := 32) (hf i hi) (hg i hi)
end Go.Proofs.Ytkffakekakhgdaa
