/- Package gray: words, plain: no program in sight. No condition. -/
import Derived.Test.YtmibifmabkaakaaDoorU64
import Derived.Lib.TrailingZeros
namespace Go.Proofs.YtmibifmabkaakaaDoor
open Go.ChangeShapes Go.WideShapes Go.ChangeAt Go.RowKit
set_option linter.unusedVariables false

/-- Exclusive or with itself, shifted. -/
def dd (k : Nat) (x : BitVec 64) : BitVec 64 := x ^^^ (x >>> k)
abbrev gcode (x : BitVec 64) : BitVec 64 := dd 1 x
theorem dd_bit (k : Nat) (x : BitVec 64) (i : Nat) : (dd k x).getLsbD i = (x.getLsbD i ^^ x.getLsbD (k + i)) := by
  unfold dd; rw [BitVec.getLsbD_xor, BitVec.getLsbD_ushiftRight]
theorem dd_sq (k : Nat) (x : BitVec 64) : dd k (dd k x) = dd (k + k) x := by
  apply BitVec.eq_of_getLsbD_eq
  intro i _
  rw [dd_bit, dd_bit, dd_bit, dd_bit, show k + (k + i) = k + k + i by omega]
  cases x.getLsbD i <;> cases x.getLsbD (k + i) <;> cases x.getLsbD (k + k + i) <;> rfl
theorem dd_comm (j k : Nat) (x : BitVec 64) : dd j (dd k x) = dd k (dd j x) := by
  apply BitVec.eq_of_getLsbD_eq
  intro i _
  rw [dd_bit, dd_bit, dd_bit, dd_bit, dd_bit, dd_bit, show k + (j + i) = j + (k + i) by omega]
  cases x.getLsbD i <;> cases x.getLsbD (k + i) <;> cases x.getLsbD (j + i) <;> cases x.getLsbD (j + (k + i)) <;> rfl
theorem dd_all (x : BitVec 64) : dd 64 x = x := by
  apply BitVec.eq_of_getLsbD_eq
  intro i _
  rw [dd_bit, BitVec.getLsbD_of_ge x (64 + i) (by omega)]
  simp
/-- Place, as the code does it: j steps. -/
def gpl (c : BitVec 64) : Nat → BitVec 64
  | 0 => c
  | j + 1 => dd (2 ^ j) (gpl c j)
theorem code_place (c : BitVec 64) : gcode (gpl c 6) = c := by
  show dd 1 (dd 32 (dd 16 (dd 8 (dd 4 (dd 2 (dd 1 c)))))) = c
  rw [dd_comm 1 32, dd_comm 1 16, dd_comm 1 8, dd_comm 1 4, dd_comm 1 2, dd_sq 1]
  show dd 32 (dd 16 (dd 8 (dd 4 (dd 2 (dd 2 c))))) = c
  rw [dd_sq 2]
  show dd 32 (dd 16 (dd 8 (dd 4 (dd 4 c)))) = c
  rw [dd_sq 4]
  show dd 32 (dd 16 (dd 8 (dd 8 c))) = c
  rw [dd_sq 8]
  show dd 32 (dd 16 (dd 16 c)) = c
  rw [dd_sq 16]
  show dd 32 (dd 32 c) = c
  rw [dd_sq 32]
  exact dd_all c
/-! ### bit by bit -/
def xa (n : BitVec 64) (k : Nat) : BitVec 64 := (n >>> k) &&& 1#64
def xb (n : BitVec 64) (k : Nat) : BitVec 64 := if k < 63 then (n >>> (k + 1)) &&& 1#64 else 0#64
def xc (n : BitVec 64) : Nat → BitVec 64
  | 0 => 0#64
  | k + 1 => if xa n k ≠ xb n k then xc n k ||| (1#64 <<< k) else xc n k
theorem one_bit (i : Nat) : (1#64).getLsbD i = decide (i = 0) := by
  rw [BitVec.getLsbD_one]; simp
theorem xa_bit (n : BitVec 64) (k : Nat) : xa n k = if n.getLsbD k then 1#64 else 0#64 := by
  apply BitVec.eq_of_getLsbD_eq
  intro i _
  unfold xa
  rw [BitVec.getLsbD_and, BitVec.getLsbD_ushiftRight, one_bit]
  by_cases h : i = 0
  · subst h
    rw [Nat.add_zero]
    cases n.getLsbD k <;> simp
  · rw [decide_eq_false h, Bool.and_false]
    cases n.getLsbD k
    · simp
    · rw [if_pos rfl, one_bit, decide_eq_false h]
theorem xb_bit (n : BitVec 64) (k : Nat) (hk : k < 64) : xb n k = if n.getLsbD (k + 1) then 1#64 else 0#64 := by
  unfold xb
  by_cases h : k < 63
  · rw [if_pos h]; exact xa_bit n (k + 1)
  · rw [if_neg h, BitVec.getLsbD_of_ge n (k + 1) (by omega)]; rfl
theorem xab (n : BitVec 64) (k : Nat) (hk : k < 64) : (xa n k ≠ xb n k) ↔ (gcode n).getLsbD k = true := by
  rw [xa_bit, xb_bit n k hk, dd_bit, show 1 + k = k + 1 by omega]
  cases n.getLsbD k <;> cases n.getLsbD (k + 1) <;> simp
theorem shl_one_bit (k i : Nat) (hk : k < 64) : (1#64 <<< k).getLsbD i = decide (i = k) := by
  rw [BitVec.getLsbD_shiftLeft, one_bit]
  by_cases h : i = k
  · subst h; simp [hk]
  · rw [decide_eq_false h]
    by_cases h2 : i < k
    · simp [h2]
    · rw [decide_eq_false (show ¬ i - k = 0 by omega), Bool.and_false]
theorem xc_bit (n : BitVec 64) : ∀ k, k ≤ 64 → ∀ i, (xc n k).getLsbD i = (decide (i < k) && (gcode n).getLsbD i)
  | 0, _, i => by simp [xc]
  | k + 1, hk, i => by
    have ih := xc_bit n k (by omega) i
    have hx := xab n k (by omega)
    rw [xc]
    by_cases h : xa n k ≠ xb n k
    · rw [if_pos h, BitVec.getLsbD_or, ih, shl_one_bit k i (by omega)]
      by_cases e : i = k
      · subst e; rw [hx.1 h]; simp
      · rw [decide_eq_false e, Bool.or_false]
        by_cases e2 : i < k
        · rw [decide_eq_true e2, decide_eq_true (show i < k + 1 by omega)]
        · rw [decide_eq_false e2, decide_eq_false (show ¬ i < k + 1 by omega)]
    · rw [if_neg h, ih]
      by_cases e : i = k
      · subst e
        have : (gcode n).getLsbD i = false := by
          rw [Bool.eq_false_iff]; exact fun h2 => h (hx.2 h2)
        rw [this]; simp
      · by_cases e2 : i < k
        · rw [decide_eq_true e2, decide_eq_true (show i < k + 1 by omega)]
        · rw [decide_eq_false e2, decide_eq_false (show ¬ i < k + 1 by omega)]
theorem xc_code (n : BitVec 64) : xc n 64 = gcode n := by
  apply BitVec.eq_of_getLsbD_eq
  intro i hi
  rw [xc_bit n 64 (Nat.le_refl _) i, decide_eq_true hi, Bool.true_and]
/-! ### what flips -/
theorem code_lin (x y : BitVec 64) : gcode x ^^^ gcode y = gcode (x ^^^ y) := by
  apply BitVec.eq_of_getLsbD_eq
  intro i _
  rw [BitVec.getLsbD_xor, dd_bit, dd_bit, dd_bit, BitVec.getLsbD_xor, BitVec.getLsbD_xor]
  cases x.getLsbD i <;> cases x.getLsbD (1 + i) <;> cases y.getLsbD i <;> cases y.getLsbD (1 + i) <;> rfl
theorem flip_nat {x y f m : Nat} (hx : x = 2 ^ f * (2 * m + 1)) (hy : y + 1 = x) (i : Nat) : (Nat.testBit y i ^^ Nat.testBit x i) = decide (i ≤ f) := by
  have hp : 0 < 2 ^ f := Nat.pow_pos (by decide)
  have hy2 : y = 2 ^ f * (2 * m) + (2 ^ f - 1) := by
    rw [Nat.mul_add, Nat.mul_one] at hx
    omega
  have hx2 : x = 2 ^ f * (2 * m + 1) + 0 := hx
  rw [hy2, hx2, Nat.testBit_two_pow_mul_add _ (by omega), Nat.testBit_two_pow_mul_add _ hp]
  by_cases h : i < f
  · rw [if_pos h, if_pos h, Nat.testBit_two_pow_sub_one]
    simp [h]; omega
  · rw [if_neg h, if_neg h]
    obtain ⟨j, rfl⟩ : ∃ j, i = f + j := ⟨i - f, by omega⟩
    rw [Nat.add_sub_cancel_left]
    cases j with
    | zero => simp [Nat.testBit_zero]
    | succ j =>
      rw [Nat.testBit_succ, Nat.testBit_succ, show 2 * m / 2 = m by omega, show (2 * m + 1) / 2 = m by omega]
      simp
theorem flip_code (n : BitVec 64) (hn : n ≠ 18446744073709551615#64) : Lib.ctz 64 (n + 1#64).toNat < 64 ∧ gcode n ^^^ gcode (n + 1#64) = 1#64 <<< Lib.ctz 64 (n + 1#64).toNat := by
  have hlt : n.toNat + 1 < 18446744073709551616 := by
    have h1 := n.isLt
    have h2 : n.toNat ≠ 18446744073709551615 := fun h => hn (BitVec.eq_of_toNat_eq h)
    omega
  have e : (n + 1#64).toNat = n.toNat + 1 := by
    rw [BitVec.toNat_add]
    show (n.toNat + 1) % _ = _
    exact Nat.mod_eq_of_lt hlt
  have hc : Lib.ctz 64 (n + 1#64).toNat = Lib.ctzFrom 64 (n.toNat + 1) := by
    unfold Lib.ctz
    rw [e, if_neg (by omega)]
  obtain ⟨m, h1, h2⟩ := Lib.ctzFrom_spec 64 (n.toNat + 1) (by omega) (by omega)
  rw [hc]
  obtain ⟨f, hf⟩ : ∃ f, f = Lib.ctzFrom 64 (n.toNat + 1) := ⟨_, rfl⟩
  rw [← hf] at h1 h2 ⊢
  refine ⟨h2, ?_⟩
  rw [code_lin]
  have hb : ∀ i, (n ^^^ (n + 1#64)).getLsbD i = decide (i ≤ f) := fun i => by
    rw [BitVec.getLsbD_xor]
    show (Nat.testBit n.toNat i ^^ Nat.testBit (n + 1#64).toNat i) = _
    rw [e]
    exact flip_nat h1 rfl i
  apply BitVec.eq_of_getLsbD_eq
  intro i hi
  rw [dd_bit, hb, hb, shl_one_bit f i h2]
  by_cases e1 : i = f
  · subst e1; simp
  · rw [decide_eq_false e1]
    by_cases e2 : i ≤ f
    · rw [decide_eq_true e2, decide_eq_true (show 1 + i ≤ f by omega)]; rfl
    · rw [decide_eq_false e2, decide_eq_false (show ¬ 1 + i ≤ f by omega)]; rfl
end Go.Proofs.YtmibifmabkaakaaDoor
