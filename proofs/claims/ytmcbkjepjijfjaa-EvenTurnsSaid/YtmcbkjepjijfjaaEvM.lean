/- Digits the other way round, and how evenly they lie: plain. No condition. -/
import Derived.Test.YtmcbkjepjijfjaaBase
namespace Go.Proofs.Ytmcbkjepjijfjaa
set_option linter.unusedVariables false

/-- What All answers. -/
def eall (b d : Int) : Int × Int := if 2 ≤ b ∧ b ≤ 36 ∧ 0 ≤ d ∧ d ≤ 30 then (if b.toNat ^ d.toNat ≤ 1073741824 then (((b.toNat ^ d.toNat : Nat) : Int), 0) else (0, 4)) else (0, 2)
theorem pow_lt_of {b : Nat} (hb : 2 ≤ b) {i d : Nat} (hi : i ≤ d) (h : b ^ d ≤ 1073741824) : b ^ i ≤ 1073741824 := Nat.le_trans (Nat.pow_le_pow_right (by omega) hi) h
/-- The digits of m, read the other way round, the first j of them. -/
def trn (b m : Nat) : Nat → Nat
  | 0 => 0
  | j + 1 => trn b m j * b + m / b ^ j % b
theorem trn_lt {b : Nat} (hb : 0 < b) (m j : Nat) : trn b m j < b ^ j := by
  induction j with
  | zero => simp [trn]
  | succ j ih =>
    have h1 : m / b ^ j % b < b := Nat.mod_lt _ hb
    have h2 : (trn b m j + 1) * b ≤ b ^ j * b := Nat.mul_le_mul_right _ ih
    rw [Nat.add_mul, Nat.one_mul] at h2
    show trn b m j * b + m / b ^ j % b < b ^ j * b
    omega
theorem trn_mod {b : Nat} (hb : 0 < b) (n d : Nat) {j : Nat} (hj : j ≤ d) : trn b (n % b ^ d) j = trn b n j := by
  induction j with
  | zero => rfl
  | succ j ih =>
    show trn b (n % b ^ d) j * b + n % b ^ d / b ^ j % b = trn b n j * b + n / b ^ j % b
    rw [ih (by omega)]
    congr 1
    have e : b ^ d = b ^ j * b ^ (d - j) := by rw [← Nat.pow_add]; congr 1; omega
    rw [e, Nat.mod_mul_right_div_self]
    obtain ⟨e2, he2⟩ : ∃ e2, d - j = e2 + 1 := ⟨d - j - 1, by omega⟩
    rw [he2, Nat.pow_succ, Nat.mul_comm (b ^ e2) b, Nat.mod_mul_right_mod]
theorem ytrn_step (b m j e : Nat) : trn b m j * b ^ (e + 1) + m / b ^ j % b * b ^ e = trn b m (j + 1) * b ^ e := by
  show _ = (trn b m j * b + m / b ^ j % b) * b ^ e
  rw [Nat.add_mul, Nat.pow_succ, Nat.mul_assoc, Nat.mul_comm b]
theorem div_step (b m j : Nat) : m / b ^ j / b = m / b ^ (j + 1) := by rw [Nat.div_div_eq_div_mul, Nat.pow_succ]
/-- How many of the first m lie at x. -/
def cnt (b d : Nat) : Nat → Nat → Nat
  | 0, _ => 0
  | m + 1, x => cnt b d m x + if trn b m d = x then 1 else 0
/-- How many of the first m lie below x. -/
def bel (b d : Nat) : Nat → Nat → Nat
  | 0, _ => 0
  | m + 1, x => bel b d m x + if trn b m d < x then 1 else 0
theorem bel_zero (b d m : Nat) : bel b d m 0 = 0 := by
  induction m with
  | zero => rfl
  | succ m ih => show bel b d m 0 + _ = 0; rw [ih, if_neg (by omega)]
theorem bel_le (b d m x : Nat) : bel b d m x ≤ m := by
  induction m with
  | zero => exact Nat.le_refl _
  | succ m ih => show bel b d m x + _ ≤ _; split <;> omega
theorem cnt_le (b d m x : Nat) : cnt b d m x ≤ m := by
  induction m with
  | zero => exact Nat.le_refl _
  | succ m ih => show cnt b d m x + _ ≤ _; split <;> omega
theorem bel_step (b d m x : Nat) : bel b d m x + cnt b d m x = bel b d m (x + 1) := by
  induction m with
  | zero => rfl
  | succ m ih =>
    show (bel b d m x + _) + (cnt b d m x + _) = bel b d m (x + 1) + _
    rw [← ih]
    by_cases h1 : trn b m d < x
    · rw [if_pos h1, if_neg (by omega), if_pos (by omega)]; omega
    · rw [if_neg h1]
      by_cases h2 : trn b m d = x
      · rw [if_pos h2, if_pos (by omega)]; omega
      · rw [if_neg h2, if_neg (by omega)]; omega
def max3 (m d : Int) : Int := if (if m < d then d else m) < -d then -d else (if m < d then d else m)
def dst (b d m : Nat) (x : Nat) : Int := (bel b d m x : Int) * ((b ^ d : Nat) : Int) - (m : Int) * (x : Int)
/-- The farthest, over the first k places. -/
def mst (b d m : Nat) : Nat → Int
  | 0 => 0
  | k + 1 => max3 (mst b d m k) (dst b d m (k + 1))
theorem dst_bd {b d m x : Nat} (hm : m ≤ 400) (hp : b ^ d ≤ 4096) (hx : x ≤ 4096) : -1638400 ≤ dst b d m x ∧ dst b d m x ≤ 1638400 ∧ (bel b d m x : Int) * ((b ^ d : Nat) : Int) ≤ 1638400 ∧ 0 ≤ (bel b d m x : Int) * ((b ^ d : Nat) : Int) ∧ (m : Int) * (x : Int) ≤ 1638400 ∧ 0 ≤ (m : Int) * (x : Int) := by
  have h1 := bel_le b d m x
  have h2 : bel b d m x * b ^ d ≤ 400 * 4096 := Nat.mul_le_mul (by omega) hp
  have h3 : m * x ≤ 400 * 4096 := Nat.mul_le_mul hm hx
  unfold dst
  rw [← Int.natCast_mul, ← Int.natCast_mul]
  generalize bel b d m x * b ^ d = p at *
  generalize m * x = q at *
  omega
theorem max3_bd {m d : Int} (h1 : 0 ≤ m) (h2 : m ≤ 1638400) (h3 : -1638400 ≤ d) (h4 : d ≤ 1638400) : 0 ≤ max3 m d ∧ max3 m d ≤ 1638400 := by
  unfold max3
  split <;> split <;> omega
theorem mst_bd {b d m k : Nat} (hm : m ≤ 400) (hp : b ^ d ≤ 4096) (hk : k ≤ 4096) : 0 ≤ mst b d m k ∧ mst b d m k ≤ 1638400 := by
  induction k with
  | zero => exact ⟨Int.le_refl _, by show (0 : Int) ≤ _; decide⟩
  | succ k ih =>
    obtain ⟨h1, h2⟩ := ih (by omega)
    obtain ⟨h3, h4, _⟩ := dst_bd (b := b) (d := d) (m := m) (x := k + 1) hm hp hk
    exact max3_bd h1 h2 h3 h4
end Go.Proofs.Ytmcbkjepjijfjaa
