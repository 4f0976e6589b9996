/- Plain facts on the shift register: bits of numbers, the step, the step back. No condition. -/
import Derived.Test.YtakjcodfcoaadaaBase
import Derived.Lib.BitFns
namespace Go.Proofs.Ytakjcodfcoaadaa
open Go.RowKit
open Lib (popAux)

theorem popAux_split (a b x : Nat) : popAux (a + b) x = popAux a x + popAux b (x / 2 ^ a) := by
  induction a generalizing x with
  | zero => simp [popAux]
  | succ a ih =>
    rw [show a + 1 + b = (a + b) + 1 by omega]
    simp only [popAux]
    rw [ih, Nat.div_div_eq_div_mul, Nat.pow_succ, Nat.mul_comm 2]
    omega
theorem popAux_zero (a : Nat) : popAux a 0 = 0 := by
  induction a with
  | zero => rfl
  | succ a ih => simp [popAux, ih]
theorem popAux_small (a b x : Nat) (h : x < 2 ^ a) : popAux (a + b) x = popAux a x := by
  rw [popAux_split, Nat.div_eq_of_lt h, popAux_zero, Nat.add_zero]
theorem popAux_mod (a x : Nat) : popAux a (x % 2 ^ a) = popAux a x := by
  induction a generalizing x with
  | zero => rfl
  | succ a ih =>
    simp only [popAux]
    have h1 : x % 2 ^ (a + 1) % 2 = x % 2 := by
      rw [Nat.pow_succ, Nat.mul_comm, Nat.mod_mul_right_mod]
    have h2 : x % 2 ^ (a + 1) / 2 = (x / 2) % 2 ^ a := by
      rw [Nat.pow_succ, Nat.mul_comm, Nat.mod_mul_right_div_self]
    rw [h1, h2, ih]
theorem popAux_last (k x : Nat) : popAux (k + 1) x = popAux k x + x / 2 ^ k % 2 := by
  rw [popAux_split]; simp [popAux]
theorem and_bit (s t k : Nat) : (s &&& t) / 2 ^ k % 2 = (s / 2 ^ k % 2) * (t / 2 ^ k % 2) := by
  have h := Nat.testBit_and s t k
  simp only [Nat.testBit_eq_decide_div_mod_eq] at h
  have h1 := Nat.mod_lt ((s &&& t) / 2 ^ k) (by decide : 0 < 2)
  have h2 := Nat.mod_lt (s / 2 ^ k) (by decide : 0 < 2)
  have h3 := Nat.mod_lt (t / 2 ^ k) (by decide : 0 < 2)
  rcases (by omega : s / 2 ^ k % 2 = 0 ∨ s / 2 ^ k % 2 = 1) with e | e <;> rcases (by omega : t / 2 ^ k % 2 = 0 ∨ t / 2 ^ k % 2 = 1) with f | f <;> simp [e, f] at h ⊢ <;> omega

/-- The parity of the tapped bits. -/
def par (n s t : Nat) : Nat := popAux n (s &&& t) % 2
theorem par_lt (n s t : Nat) : par n s t < 2 := Nat.mod_lt _ (by decide)
theorem par_zero (s t : Nat) : par 0 s t = 0 := rfl
theorem par_succ (n s t : Nat) : par (n + 1) s t = (par n s t + (s / 2 ^ n % 2) * (t / 2 ^ n % 2)) % 2 := by
  unfold par; rw [popAux_last, and_bit]; omega
def lstep (n t s : Nat) : Nat := 2 * s % 2 ^ n + par n s t
theorem par_big (n m s t : Nat) (h : s < 2 ^ n) : par (n + m) s t = par n s t := by
  unfold par
  rw [popAux_small]
  exact Nat.lt_of_le_of_lt Nat.and_le_left h
theorem lstep_lt (n t s : Nat) (h : 1 ≤ n) : lstep n t s < 2 ^ n := by
  obtain ⟨m, rfl⟩ : ∃ m, n = m + 1 := ⟨n - 1, by omega⟩
  have h1 := par_lt (m + 1) s t
  have h3 : 2 * s % 2 ^ (m + 1) = 2 * (s % 2 ^ m) := by
    rw [Nat.pow_succ, Nat.mul_comm (2 ^ m), Nat.mul_mod_mul_left]
  have h4 := Nat.mod_lt s (show 0 < 2 ^ m from Nat.pow_pos (by decide))
  unfold lstep
  rw [h3, Nat.pow_succ]
  omega

/-- The state ahead. -/
def lback (n t s : Nat) : Nat := s / 2 + (s % 2 + par n (s / 2) t) % 2 * 2 ^ (n - 1)
theorem lback_lt (n t s : Nat) (h : 1 ≤ n) (hs : s < 2 ^ n) : lback n t s < 2 ^ n := by
  obtain ⟨m, rfl⟩ : ∃ m, n = m + 1 := ⟨n - 1, by omega⟩
  have h1 := Nat.mod_lt (s % 2 + par (m + 1) (s / 2) t) (by decide : 0 < 2)
  unfold lback
  rw [Nat.pow_succ] at *
  simp only [Nat.add_sub_cancel]
  have h2 : s / 2 < 2 ^ m := by omega
  rcases (by omega : (s % 2 + par (m + 1) (s / 2) t) % 2 = 0 ∨ (s % 2 + par (m + 1) (s / 2) t) % 2 = 1) with e | e <;> rw [e] <;> omega
theorem par_top (m a b t : Nat) (ha : a < 2 ^ m) (hb : b < 2) : par (m + 1) (a + b * 2 ^ m) t = (par m a t + b * (t / 2 ^ m % 2)) % 2 := by
  rw [par_succ]
  have h0 : 0 < 2 ^ m := Nat.pow_pos (by decide)
  have h1 : (a + b * 2 ^ m) / 2 ^ m % 2 = b := by
    rw [Nat.add_mul_div_right _ _ h0, Nat.div_eq_of_lt ha]; omega
  have h2 : par m (a + b * 2 ^ m) t = par m a t := by
    unfold par
    rw [← popAux_mod, Nat.and_mod_two_pow, Nat.add_mul_mod_self_right, ← Nat.and_mod_two_pow, popAux_mod]
  rw [h1, h2]
theorem lback_step (n t s : Nat) (h : 1 ≤ n) (hs : s < 2 ^ n) (ht0 : 2 ^ (n - 1) ≤ t) (ht : t < 2 ^ n) : lstep n t (lback n t s) = s := by
  obtain ⟨m, rfl⟩ : ∃ m, n = m + 1 := ⟨n - 1, by omega⟩
  have h0 : 0 < 2 ^ m := Nat.pow_pos (by decide)
  simp only [Nat.add_sub_cancel] at ht0
  rw [Nat.pow_succ] at hs ht
  have ha : s / 2 < 2 ^ m := by omega
  have htop : t / 2 ^ m % 2 = 1 := by
    have : t / 2 ^ m = 1 := by
      apply Nat.div_eq_of_lt_le <;> omega
    omega
  have hp : par (m + 1) (s / 2) t = par m (s / 2) t := par_big m 1 _ _ ha
  unfold lstep lback
  simp only [Nat.add_sub_cancel]
  have hb := Nat.mod_lt (s % 2 + par (m + 1) (s / 2) t) (by decide : 0 < 2)
  rw [par_top m _ _ t ha hb, htop, hp]
  have h3 : 2 * (s / 2 + (s % 2 + par m (s / 2) t) % 2 * 2 ^ m) % 2 ^ (m + 1) = 2 * (s / 2) := by
    rw [Nat.pow_succ, Nat.mul_comm (2 ^ m), Nat.mul_mod_mul_left, Nat.add_mul_mod_self_right, Nat.mod_eq_of_lt ha]
  rw [h3]
  have h4 := par_lt m (s / 2) t
  omega

/-! the number of ones of 32 bits, by bytes of a table -/
theorem pop8_bd (i : Int) : 0 ≤ Lib.pop8 i ∧ Lib.pop8 i ≤ 8 := by
  have h : ∀ n : Nat, ((Lib.pop8tab[n]?).getD 0).toNat ≤ 8 := by
    intro n
    by_cases hn : n < 256
    · have := (by decide +kernel : ∀ n : Fin 256, ((Lib.pop8tab[n.val]?).getD 0).toNat ≤ 8) ⟨n, hn⟩
      exact this
    · have : Lib.pop8tab[n]? = none := ByteArray.getElem?_ge' _ _ (by rw [Lib.pop8tab_size]; omega)
      rw [this]; decide
  have := h i.toNat
  unfold Lib.pop8
  omega
theorem and255 (y : Int) (h0 : 0 ≤ y) (h1 : y < 4294967296) : bits .and .u32 y 255 = y % 256 := by
  obtain ⟨n, rfl⟩ := Int.eq_ofNat_of_zero_le h0
  have := u32_and_nat n 255 (by omega) (by omega)
  rw [nat_mask8] at this
  rw [show (255 : Int) = ((255 : Nat) : Int) from rfl, this]
  omega
/-- The number of ones of a 32-bit number, by bytes. -/
def pop32 (x : Int) : Int := Lib.pop8 (x / 16777216) + Lib.pop8 (x / 65536 % 256) + Lib.pop8 (x / 256 % 256) + Lib.pop8 (x % 256)
theorem pop8_aux (n : Nat) (h : n < 256) : Lib.pop8 (n : Int) = (popAux 8 n : Int) := by
  have h1 := Lib.pop8_eq ⟨n, h⟩
  simp only at h1
  rw [h1]
  unfold Lib.onesCount
  rw [show (64 : Nat) = 8 + 56 from rfl, popAux_small 8 56 n (by omega)]
theorem pop32_aux (x : Nat) (h : x < 2 ^ 32) : pop32 (x : Int) = (popAux 32 x : Int) := by
  have e1 : ((x : Int) / 16777216) = ((x / 16777216 : Nat) : Int) := by omega
  have e2 : ((x : Int) / 65536 % 256) = ((x / 65536 % 256 : Nat) : Int) := by omega
  have e3 : ((x : Int) / 256 % 256) = ((x / 256 % 256 : Nat) : Int) := by omega
  have e4 : ((x : Int) % 256) = ((x % 256 : Nat) : Int) := by omega
  have m1 := popAux_mod 8 x
  have m2 := popAux_mod 8 (x / 256)
  have m3 := popAux_mod 8 (x / 65536)
  have s1 := popAux_split 8 24 x
  have s2 := popAux_split 8 16 (x / 256)
  have s3 := popAux_split 8 8 (x / 256 / 256)
  rw [show 8 + 24 = 32 from rfl] at s1
  rw [show 8 + 16 = 24 from rfl] at s2
  rw [show 8 + 8 = 16 from rfl] at s3
  rw [show 2 ^ 8 = 256 from rfl] at *
  rw [show x / 256 / 256 = x / 65536 by omega] at *
  rw [show x / 65536 / 256 = x / 16777216 by omega] at *
  unfold pop32
  rw [e1, e2, e3, e4, pop8_aux _ (by omega), pop8_aux _ (by omega), pop8_aux _ (by omega), pop8_aux _ (by omega)]
  omega
theorem pop32_par (n s t : Nat) (hn : n ≤ 32) (hs : s < 2 ^ n) : pop32 ((s &&& t : Nat) : Int) % 2 = (par n s t : Int) := by
  have h1 : s &&& t < 2 ^ n := Nat.lt_of_le_of_lt Nat.and_le_left hs
  have h2 : 2 ^ n ≤ 2 ^ 32 := Nat.pow_le_pow_right (by decide) hn
  rw [pop32_aux _ (by omega)]
  unfold par
  have := popAux_small n (32 - n) (s &&& t) h1
  rw [show n + (32 - n) = 32 by omega] at this
  rw [this]
  omega
end Go.Proofs.Ytakjcodfcoaadaa
