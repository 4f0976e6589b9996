/- Plain facts on sums of numbers. No condition. -/
import Derived.Test.YtmibifmabkaakaaDoorBinM
namespace Go.Proofs.YtmibifmabkaakaaDoor

/-- In how many ways m is a sum of numbers from 1 to j. -/
def prt : Nat → Nat → Nat
  | 0, 0 => 1
  | 0, _ + 1 => 0
  | j + 1, m => prt j m + (if h : j + 1 ≤ m then prt (j + 1) (m - (j + 1)) else 0)
termination_by j m => (j, m)
theorem prt_zero_succ (m : Nat) : prt 0 (m + 1) = 0 := by rw [prt]
theorem prt_zero_zero : prt 0 0 = 1 := by rw [prt]
theorem prt_lt {j m : Nat} (h : m < j + 1) : prt (j + 1) m = prt j m := by rw [prt, dif_neg (by omega)]; simp
theorem prt_ge {j m : Nat} (h : j + 1 ≤ m) : prt (j + 1) m = prt j m + prt (j + 1) (m - (j + 1)) := by
  conv => lhs; rw [prt]
  rw [dif_pos h]
/-- The sum of f 1 to f g. -/
def sumto (f : Nat → Nat) : Nat → Nat
  | 0 => 0
  | g + 1 => sumto f g + f (g + 1)
theorem sumto_succ (f : Nat → Nat) (g : Nat) : sumto f (g + 1) = sumto f g + f (g + 1) := rfl
theorem sumto_congr {f h : Nat → Nat} {g : Nat} (e : ∀ i, 1 ≤ i → i ≤ g → f i = h i) : sumto f g = sumto h g := by
  induction g with
  | zero => rfl
  | succ g ih => unfold sumto; rw [ih fun i h1 h2 => e i h1 (by omega), e (g + 1) (by omega) (by omega)]
theorem sumto_add (f h : Nat → Nat) (g : Nat) : sumto (fun i => f i + h i) g = sumto f g + sumto h g := by
  induction g with
  | zero => rfl
  | succ g ih => unfold sumto; rw [ih]; omega
theorem sumto_zero {f : Nat → Nat} {g : Nat} (e : ∀ i, 1 ≤ i → i ≤ g → f i = 0) : sumto f g = 0 := by
  induction g with
  | zero => rfl
  | succ g ih => unfold sumto; rw [ih fun i h1 h2 => e i h1 (by omega), e (g + 1) (by omega) (by omega)]
theorem sumto_more {f : Nat → Nat} {a b : Nat} (h : a ≤ b) (e : ∀ i, a < i → i ≤ b → f i = 0) : sumto f b = sumto f a := by
  induction b with
  | zero => obtain rfl : a = 0 := by omega
            rfl
  | succ b ih =>
    by_cases hb : a = b + 1
    · subst hb; rfl
    · rw [sumto_succ, ih (by omega) fun i h1 h2 => e i h1 (by omega), e (b + 1) (by omega) (by omega)]; rfl
theorem sumto_shift (f : Nat → Nat) (g : Nat) : sumto f (g + 1) = f 1 + sumto (fun i => f (i + 1)) g := by
  induction g with
  | zero => simp [sumto]
  | succ g ih => rw [sumto_succ, ih, sumto_succ]; omega
/-- In how many ways n is a sum of k numbers from 1 to most, the greatest first. -/
def vs : Nat → Nat → Nat → Nat
  | 0, n, _ => if n = 0 then 1 else 0
  | k + 1, n, most => sumto (fun g => if g ≤ n then vs k (n - g) g else 0) most
theorem vs_succ (k n most : Nat) : vs (k + 1) n most = sumto (fun g => if g ≤ n then vs k (n - g) g else 0) most := rfl
theorem vs_step (k n g : Nat) : vs (k + 1) n (g + 1) = vs (k + 1) n g + (if g + 1 ≤ n then vs k (n - (g + 1)) (g + 1) else 0) := rfl
theorem vs_none (k n : Nat) : vs (k + 1) n 0 = 0 := rfl
theorem vs_most {k n g : Nat} (h : n ≤ g) : vs k n g = vs k n n := by
  cases k with
  | zero => rfl
  | succ k => exact sumto_more h fun i h1 _ => if_neg (by omega)
theorem vs_less {k n g : Nat} (h : n < k) : vs k n g = 0 := by
  induction k generalizing n g with
  | zero => omega
  | succ k ih =>
    rw [vs_succ]
    refine sumto_zero fun i h1 h2 => ?_
    by_cases hi : i ≤ n
    · rw [if_pos hi, ih (by omega)]
    · rw [if_neg hi]
/-- Either the least is 1, or all can be lessened. -/
theorem vs_split (k n g : Nat) (hg : 1 ≤ g) : vs (k + 1) n g = (if 1 ≤ n then vs k (n - 1) g else 0) + (if k + 1 ≤ n then vs (k + 1) (n - (k + 1)) (g - 1) else 0) := by
  induction k generalizing n g with
  | zero =>
    obtain ⟨g, rfl⟩ : ∃ m, g = m + 1 := ⟨g - 1, by omega⟩
    rw [vs_succ, sumto_shift, Nat.add_sub_cancel]
    by_cases h : 1 ≤ n
    · rw [if_pos h, if_pos h, if_pos h]
      congr 1
      rw [vs_succ]
      refine sumto_congr fun i h1 h2 => ?_
      by_cases hi : i + 1 ≤ n
      · rw [if_pos hi, if_pos (by omega), show n - (i + 1) = n - 1 - i by omega]; rfl
      · rw [if_neg hi, if_neg (by omega)]
    · rw [if_neg h, if_neg h, if_neg h]
      rw [sumto_zero fun i h1 h2 => if_neg (by omega)]
  | succ k ih =>
    obtain ⟨g, rfl⟩ : ∃ m, g = m + 1 := ⟨g - 1, by omega⟩
    rw [vs_succ]
    have e : ∀ h, 1 ≤ h → h ≤ g + 1 → (if h ≤ n then vs (k + 1) (n - h) h else 0) = (fun h => if h ≤ n - 1 ∧ 1 ≤ n then vs k (n - 1 - h) h else 0) h + (fun h => if h + (k + 1) ≤ n then vs (k + 1) (n - h - (k + 1)) (h - 1) else 0) h := by
      intro h h1 h2
      simp only
      by_cases hn : h ≤ n
      · rw [if_pos hn, ih (n - h) h h1]
        congr 1
        · by_cases h3 : 1 ≤ n - h
          · rw [if_pos h3, if_pos (by omega), show n - h - 1 = n - 1 - h by omega]
          · rw [if_neg h3, if_neg (by omega)]
        · by_cases h3 : k + 1 ≤ n - h
          · rw [if_pos h3, if_pos (by omega)]
          · rw [if_neg h3, if_neg (by omega)]
      · rw [if_neg hn, if_neg (by omega), if_neg (by omega)]
    rw [sumto_congr e, sumto_add, Nat.add_sub_cancel]
    congr 1
    · by_cases h : 1 ≤ n
      · rw [if_pos h, vs_succ]
        refine sumto_congr fun i _ _ => ?_
        by_cases hi : i ≤ n - 1
        · rw [if_pos ⟨hi, h⟩, if_pos hi]
        · rw [if_neg (by omega), if_neg hi]
      · rw [if_neg h]
        exact sumto_zero fun i _ _ => if_neg (by omega)
    · rw [sumto_shift]
      have z : (if 1 + (k + 1) ≤ n then vs (k + 1) (n - 1 - (k + 1)) (1 - 1) else 0) = 0 := by split <;> rfl
      rw [z, Nat.zero_add]
      by_cases h : k + 1 + 1 ≤ n
      · rw [if_pos h, vs_succ]
        refine sumto_congr fun i h1 h2 => ?_
        by_cases hi : i ≤ n - (k + 1 + 1)
        · rw [if_pos (by omega), if_pos hi, Nat.add_sub_cancel, show n - (i + 1) - (k + 1) = n - (k + 1 + 1) - i by omega]
        · rw [if_neg (by omega), if_neg hi]
      · rw [if_neg h]
        exact sumto_zero fun i _ _ => if_neg (by omega)
theorem vs_le (k n g : Nat) : vs k n g ≤ 2 ^ n := by
  induction k generalizing n g with
  | zero => unfold vs; split
            · next h => subst h; exact Nat.le_refl _
            · exact Nat.zero_le _
  | succ k ih =>
    have key : ∀ g, sumto (fun g => if g ≤ n then vs k (n - g) g else 0) g + 2 ^ (n - g) ≤ 2 ^ n := by
      intro g
      induction g with
      | zero => simp [sumto]
      | succ g ihg =>
        rw [sumto_succ]
        by_cases h : g + 1 ≤ n
        · simp only [if_pos h]
          have h1 := ih (n - (g + 1)) (g + 1)
          have h2 : 2 ^ (n - g) = 2 ^ (n - (g + 1)) * 2 := by rw [← Nat.pow_succ]; congr 1; omega
          omega
        · simp only [if_neg h]
          rw [show n - (g + 1) = n - g by omega]
          omega
    rw [vs_succ]; exact Nat.le_trans (Nat.le_add_right _ _) (key g)
theorem vs_part (k n g : Nat) : ∀ i, i ≤ g → sumto (fun g => if g ≤ n then vs k (n - g) g else 0) i ≤ 2 ^ n := fun i _ => vs_le (k + 1) n i
/-- Of so many numbers, or of numbers no greater than so many: as many ways. -/
theorem vs_prt (k n : Nat) (h : k ≤ n) : vs k n n = prt k (n - k) := by
  induction k generalizing n with
  | zero => cases n with
    | zero => rw [prt_zero_zero]; rfl
    | succ n => rw [Nat.sub_zero, prt_zero_succ]; rfl
  | succ k ihk =>
    induction n using Nat.strongRecOn with
    | ind n ihn =>
      rw [vs_split k n n (by omega), if_pos (by omega), if_pos h, vs_most (by omega), vs_most (show n - (k + 1) ≤ n - 1 by omega), ihk (n - 1) (by omega)]
      by_cases h2 : k + 1 ≤ n - (k + 1)
      · rw [ihn (n - (k + 1)) (by omega) h2, prt_ge h2]
        congr 2; omega
      · rw [vs_less (by omega), prt_lt (by omega)]
        simp only [Nat.add_zero]
        congr 1; omega
theorem prt_le (k m : Nat) : prt k m ≤ 2 ^ (m + k) := by
  have := vs_prt k (m + k) (by omega)
  rw [Nat.add_sub_cancel] at this
  rw [← this]; exact vs_le _ _ _
theorem prt_small {k m : Nat} (h : m + k ≤ 60) : prt k m ≤ 1152921504606846976 := Nat.le_trans (prt_le k m) (Nat.pow_le_pow_right (n := 2) (by decide) h)
theorem vs_small {k n g : Nat} (h : n ≤ 60) : vs k n g ≤ 1152921504606846976 := Nat.le_trans (vs_le k n g) (Nat.pow_le_pow_right (n := 2) (by decide) h)
end Go.Proofs.YtmibifmabkaakaaDoor
