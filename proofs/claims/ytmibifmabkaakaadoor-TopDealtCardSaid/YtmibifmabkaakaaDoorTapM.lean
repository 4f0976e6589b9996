/- Drawing by bits: plain. No condition. -/
import Derived.Test.YtmibifmabkaakaaDoorBase
namespace Go.Proofs.YtmibifmabkaakaaDoor
set_option linter.unusedVariables false

/-- How many bits a number has. -/
def blen (m : Nat) : Nat := if m = 0 then 0 else Nat.log2 m + 1
theorem blen_zero : blen 0 = 0 := rfl
theorem blen_half {m : Nat} (h : m ≠ 0) : blen m = blen (m / 2) + 1 := by
  unfold blen
  rw [if_neg h]
  by_cases h1 : m / 2 = 0
  · rw [if_pos h1]
    have : m = 1 := by omega
    subst this
    decide
  · rw [if_neg h1, Nat.log2_def m, if_pos (by omega)]
theorem blen_shift (k : Nat) : ∀ m, 2 ^ k ≤ m → blen m = blen (m / 2 ^ k) + k := by
  induction k with
  | zero => intro m _; simp
  | succ k ih =>
    intro m h
    have h0 : 0 < 2 ^ k := Nat.pow_pos (by decide)
    rw [Nat.pow_succ] at h
    have h2 : 2 ^ k ≤ m / 2 := by omega
    rw [blen_half (by omega), ih _ h2, Nat.div_div_eq_div_mul, Nat.pow_succ, Nat.mul_comm 2]
    omega
theorem blen_le {m : Nat} (h : m < 2 ^ 40) : blen m ≤ 40 := by
  unfold blen
  split
  · omega
  · next h1 =>
    have := (Nat.log2_lt h1).2 h
    omega
def tb (t : List Bool) (i : Nat) : Nat := if t.getD i false then 1 else 0
/-- The number that m bits from place a on are. -/
def tval (t : List Bool) (a : Nat) : Nat → Nat
  | 0 => 0
  | m + 1 => 2 * tval t a m + tb t (a + m)
theorem tb_le (t : List Bool) (i : Nat) : tb t i ≤ 1 := by unfold tb; split <;> omega
theorem tval_lt (t : List Bool) (a m : Nat) : tval t a m < 2 ^ m := by
  induction m with
  | zero => exact Nat.one_pos
  | succ m ih =>
    have := tb_le t (a + m)
    show 2 * tval t a m + tb t (a + m) < 2 ^ m * 2
    omega
theorem tval_small {t : List Bool} {a m w : Nat} (hm : m ≤ w) (hw : w ≤ 41) : tval t a m < 2199023255552 := by
  have h1 := tval_lt t a m
  have h2 : 2 ^ m ≤ 2 ^ 41 := Nat.pow_le_pow_right (by decide) (by omega)
  omega
/-- The first of the numbers of w bits each that is below n. -/
def pbel (t : List Bool) (w n : Nat) : Nat → Nat → Int × Int × Int
  | 0, _ => (0, 0, 7)
  | f + 1, c => if t.length < (c + 1) * w then (0, 0, 7) else if tval t (c * w) w < n then (((tval t (c * w) w : Nat) : Int), (((c + 1) * w : Nat) : Int), 0) else pbel t w n f (c + 1)
theorem pbel_end {t : List Bool} {w n f c : Nat} (h : t.length < (c + 1) * w) : pbel t w n f c = (0, 0, 7) := by
  cases f with
  | zero => rfl
  | succ f => exact if_pos h
theorem pbel_hit {t : List Bool} {w n f c : Nat} (hf : f ≠ 0) (h : ¬ t.length < (c + 1) * w) (h2 : tval t (c * w) w < n) : pbel t w n f c = (((tval t (c * w) w : Nat) : Int), (((c + 1) * w : Nat) : Int), 0) := by
  cases f with
  | zero => exact absurd rfl hf
  | succ f => unfold pbel; rw [if_neg h, if_pos h2]
theorem pbel_next {t : List Bool} {w n f c : Nat} (h : ¬ t.length < (c + 1) * w) (h2 : ¬ tval t (c * w) w < n) : pbel t w n (f + 1) c = pbel t w n f (c + 1) := by
  conv => lhs; unfold pbel
  rw [if_neg h, if_neg h2]
/-- What Below answers. -/
def pbelow (t : List Bool) (n : Int) : Int × Int × Int := if n < 1 ∨ 1099511627776 < n then (0, 0, 2) else pbel t (blen (n - 1).toNat) n.toNat (t.length + 1) 0
/-- How much is used is no more than there is. -/
theorem pbel_used (t : List Bool) (w n f : Nat) : ∀ c, 0 ≤ (pbel t w n f c).2.1 ∧ (pbel t w n f c).2.1 ≤ t.length := by
  induction f with
  | zero => intro c; exact ⟨Int.le_refl 0, Int.natCast_nonneg _⟩
  | succ f ih =>
    intro c
    unfold pbel
    split
    · exact ⟨Int.le_refl 0, Int.natCast_nonneg _⟩
    · split
      · exact ⟨Int.natCast_nonneg _, by show (((c + 1) * w : Nat) : Int) ≤ (t.length : Int); omega⟩
      · exact ih _
theorem pbelow_used (t : List Bool) (n : Int) : 0 ≤ (pbelow t n).2.1 ∧ (pbelow t n).2.1 ≤ t.length := by
  unfold pbelow
  split
  · exact ⟨Int.le_refl 0, Int.natCast_nonneg _⟩
  · exact pbel_used _ _ _ _ _
/-- One behind the other: what was drawn, how much is used, what is wrong. -/
def pmany (t : List Bool) : List Int → Nat → List Int → List Int × Int × Int
  | [], u, out => (out, u, 0)
  | m :: l, u, out => if (pbelow (t.drop u) m).2.2 ≠ 0 then ([], 0, (pbelow (t.drop u) m).2.2) else pmany t l (u + (pbelow (t.drop u) m).2.1.toNat) (out ++ [(pbelow (t.drop u) m).1])
/-- A fair bit. -/
def pfair (t : List Bool) : Nat → Nat → Bool × Int × Int
  | 0, _ => (false, 0, 7)
  | f + 1, c => if 2 * c + 1 < t.length then (if t.getD (2 * c) false = t.getD (2 * c + 1) false then pfair t f (c + 1) else (t.getD (2 * c) false, ((2 * c + 2 : Nat) : Int), 0)) else (false, 0, 7)
theorem pfair_end {t : List Bool} {f c : Nat} (h : ¬ 2 * c + 1 < t.length) : pfair t f c = (false, 0, 7) := by
  cases f with
  | zero => rfl
  | succ f => exact if_neg h
theorem pfair_next {t : List Bool} {f c : Nat} (h : 2 * c + 1 < t.length) (e : t.getD (2 * c) false = t.getD (2 * c + 1) false) : pfair t (f + 1) c = pfair t f (c + 1) := by
  conv => lhs; unfold pfair
  rw [if_pos h, if_pos e]
theorem pfair_hit {t : List Bool} {f c : Nat} (hf : f ≠ 0) (h : 2 * c + 1 < t.length) (e : ¬ t.getD (2 * c) false = t.getD (2 * c + 1) false) : pfair t f c = (t.getD (2 * c) false, ((2 * c + 2 : Nat) : Int), 0) := by
  cases f with
  | zero => exact absurd rfl hf
  | succ f => unfold pfair; rw [if_pos h, if_neg e]
end Go.Proofs.YtmibifmabkaakaaDoor
