/- Ways up and down: the reflection, plain. Nothing of the program's own functions. -/
import Derived.Test.YtmibifmabkaakaaDoorBinM
namespace Go.Proofs.YtmibifmabkaakaaDoor
set_option linter.unusedVariables false

/-- How many ways of n steps lead d up. -/
def ffr : Nat → Int → Int
  | 0, d => if d = 0 then 1 else 0
  | n + 1, d => ffr n (d - 1) + ffr n (d + 1)
theorem ffr_neg : ∀ (n : Nat) (d : Int), ffr n (-d) = ffr n d
  | 0, d => by simp only [ffr]; by_cases h : d = 0 <;> simp [h]
  | n + 1, d => by
    simp only [ffr]
    rw [show -d - 1 = -(d + 1) by omega, show -d + 1 = -(d - 1) by omega, ffr_neg n, ffr_neg n]; omega
theorem ffr_far : ∀ (n : Nat) (d : Int), (n : Int) < d ∨ d < -(n : Int) → ffr n d = 0
  | 0, d, h => by simp only [ffr]; rw [if_neg (by omega)]
  | n + 1, d, h => by simp only [ffr]; rw [ffr_far n _ (by omega), ffr_far n _ (by omega)]; rfl
theorem ffr_odd : ∀ (n : Nat) (d : Int), ((n : Int) + d) % 2 ≠ 0 → ffr n d = 0
  | 0, d, h => by simp only [ffr]; rw [if_neg (by omega)]
  | n + 1, d, h => by simp only [ffr]; rw [ffr_odd n _ (by omega), ffr_odd n _ (by omega)]; rfl
theorem ffr_b : ∀ (n : Nat) (d : Int), 0 ≤ ffr n d ∧ ffr n d ≤ 2 ^ n
  | 0, d => by simp only [ffr]; split <;> simp
  | n + 1, d => by
    have h1 := ffr_b n (d - 1)
    have h2 := ffr_b n (d + 1)
    simp only [ffr]
    rw [show (2 : Int) ^ (n + 1) = 2 ^ n + 2 ^ n by rw [Int.pow_succ]; omega]
    omega
theorem pow56 {n : Nat} (h : n ≤ 56) : (2 : Int) ^ n ≤ 72057594037927936 := by
  have := Nat.pow_le_pow_right (show 0 < 2 by omega) h
  have h2 : (2 : Nat) ^ 56 = 72057594037927936 := by decide +kernel
  rw [h2] at this
  have h3 : ((2 ^ n : Nat) : Int) = (2 : Int) ^ n := by simp
  omega
theorem ffr_b56 {n : Nat} (h : n ≤ 56) (d : Int) : 0 ≤ ffr n d ∧ ffr n d ≤ 72057594037927936 := by
  have := ffr_b n d; have := pow56 h; omega
theorem ffr_bin : ∀ (n k : Nat), ffr n (2 * (k : Int) - n) = (bin n k : Nat)
  | 0, 0 => by simp [ffr, bin_zero]
  | 0, k + 1 => by
    rw [bin_gt (by omega)]; simp only [ffr]; rw [if_neg (by omega)]; rfl
  | n + 1, 0 => by
    simp only [ffr]
    rw [ffr_far n _ (by omega), show 2 * ((0 : Nat) : Int) - ((n + 1 : Nat) : Int) + 1 = 2 * ((0 : Nat) : Int) - n by omega, ffr_bin n 0, bin_zero, bin_zero]; rfl
  | n + 1, k + 1 => by
    simp only [ffr]
    rw [show 2 * ((k + 1 : Nat) : Int) - ((n + 1 : Nat) : Int) - 1 = 2 * (k : Int) - n by omega, show 2 * ((k + 1 : Nat) : Int) - ((n + 1 : Nat) : Int) + 1 = 2 * ((k + 1 : Nat) : Int) - n by omega, ffr_bin n k, ffr_bin n (k + 1), bin_succ]
    omega
/-- Step by step. -/
def wN (may : Nat → Int → Bool) (fr : Int) : Nat → Int → Int
  | 0, h => if may 0 fr = true ∧ h = fr then 1 else 0
  | s + 1, g => if may (s + 1) g = true then wN may fr s (g - 1) + wN may fr s (g + 1) else 0
theorem wN_b (may : Nat → Int → Bool) (fr : Int) : ∀ s h, 0 ≤ wN may fr s h ∧ wN may fr s h ≤ 2 ^ s
  | 0, h => by simp only [wN]; split <;> simp
  | s + 1, h => by
    have h1 := wN_b may fr s (h - 1)
    have h2 := wN_b may fr s (h + 1)
    simp only [wN]
    rw [show (2 : Int) ^ (s + 1) = 2 ^ s + 2 ^ s by rw [Int.pow_succ]; omega]
    split <;> omega
theorem wN_b56 (may : Nat → Int → Bool) (fr : Int) {s : Nat} (h : s ≤ 56) (d : Int) : 0 ≤ wN may fr s d ∧ wN may fr s d ≤ 72057594037927936 := by
  have := wN_b may fr s d; have := pow56 h; omega
def mAll : Nat → Int → Bool := fun _ _ => true
def mPos : Nat → Int → Bool := fun _ h => decide (0 < h)
def mIn (top : Int) : Nat → Int → Bool := fun _ h => decide (0 < h) && decide (h < top)
def mFirst (n : Nat) : Nat → Int → Bool := fun s h => !decide (h = 0) || decide (s = 0) || decide (s = n)
def mNn : Nat → Int → Bool := fun _ h => decide (0 ≤ h)
theorem wN_all (fr : Int) : ∀ n h, wN mAll fr n h = ffr n (h - fr)
  | 0, h => by simp only [wN, ffr, mAll]; by_cases e : h = fr <;> simp [e] ; omega
  | n + 1, h => by
    simp only [wN, ffr]
    rw [if_pos (show mAll (n + 1) h = true from rfl), wN_all fr n, wN_all fr n, show h - 1 - fr = h - fr - 1 by omega, show h + 1 - fr = h - fr + 1 by omega]
theorem wN_pos {fr : Int} (hf : 1 ≤ fr) : ∀ n h, 0 ≤ h → wN mPos fr n h = ffr n (h - fr) - ffr n (h + fr)
  | 0, h, hh => by
    simp only [wN, ffr, mPos, decide_eq_true_eq]
    split <;> split <;> split <;> omega
  | n + 1, h, hh => by
    by_cases h0 : h = 0
    · subst h0
      rw [show (0 : Int) - fr = -fr by omega, ffr_neg, Int.zero_add, Int.sub_self]
      simp [wN, mPos]
    · simp only [wN, ffr]
      rw [if_pos (by simp [mPos]; omega), wN_pos hf n _ (by omega), wN_pos hf n _ (by omega), show h - 1 - fr = h - fr - 1 by omega, show h + 1 - fr = h - fr + 1 by omega, show h - 1 + fr = h + fr - 1 by omega, show h + 1 + fr = h + fr + 1 by omega]
      omega
theorem wN_no {may : Nat → Int → Bool} {fr : Int} (h : may 0 fr = false) : ∀ n d, wN may fr n d = 0
  | 0, d => by simp [wN, h]
  | n + 1, d => by simp only [wN]; rw [wN_no h n, wN_no h n]; split <;> rfl
theorem wN_off {may : Nat → Int → Bool} {fr d : Int} : ∀ n, may n d = false → wN may fr n d = 0
  | 0, h => by
    simp only [wN]; rw [if_neg]; rintro ⟨a, b⟩; rw [b, a] at h; cases h
  | n + 1, h => by simp only [wN]; rw [h]; rfl
/-- What Above says. -/
def aboveV (n : Nat) (fr to : Int) : Int := if fr < 1 ∨ to < 1 then 0 else ffr n (to - fr) - ffr n (to + fr)
theorem above_is (n : Nat) (fr to : Int) : wN mPos fr n to = aboveV n fr to := by
  unfold aboveV
  by_cases h : fr < 1
  · rw [if_pos (.inl h), wN_no]; simp [mPos]; omega
  · by_cases h2 : to < 1
    · rw [if_pos (.inr h2), wN_off]; simp [mPos]; omega
    · rw [if_neg (by omega), wN_pos (by omega) n to (by omega)]
/-- Sums. -/
def sumf (f : Nat → Int) : Nat → Int
  | 0 => 0
  | m + 1 => sumf f m + f m
theorem sumf_first (f : Nat → Int) : ∀ m, sumf f (m + 1) = f 0 + sumf (fun j => f (j + 1)) m
  | 0 => by simp [sumf]
  | m + 1 => by rw [sumf, sumf_first f m, sumf]; omega
theorem sumf_congr {f g : Nat → Int} : ∀ m, (∀ j, j < m → f j = g j) → sumf f m = sumf g m
  | 0, _ => rfl
  | m + 1, h => by rw [sumf, sumf, sumf_congr m (fun j hj => h j (by omega)), h m (by omega)]
theorem sumf_add (f g : Nat → Int) : ∀ m, sumf (fun j => f j + g j) m = sumf f m + sumf g m
  | 0 => rfl
  | m + 1 => by simp only [sumf]; rw [sumf_add f g m]; omega
theorem sumf_sub (f g : Nat → Int) : ∀ m, sumf (fun j => f j - g j) m = sumf f m - sumf g m
  | 0 => rfl
  | m + 1 => by simp only [sumf]; rw [sumf_sub f g m]; omega
theorem sumf_rev (f : Nat → Int) : ∀ m, sumf f m = sumf (fun j => f (m - 1 - j)) m
  | 0 => rfl
  | m + 1 => by
    rw [sumf_first (fun j => f (m + 1 - 1 - j)) m, sumf, sumf_rev f m]
    have e : sumf (fun j => f (m + 1 - 1 - (j + 1))) m = sumf (fun j => f (m - 1 - j)) m := sumf_congr m fun j hj => by
      show f (m + 1 - 1 - (j + 1)) = f (m - 1 - j)
      rw [show m + 1 - 1 - (j + 1) = m - 1 - j by omega]
    rw [e]
    show sumf (fun j => f (m - 1 - j)) m + f m = f (m + 1 - 1 - 0) + sumf (fun j => f (m - 1 - j)) m
    rw [show m + 1 - 1 - 0 = m by omega]; omega
theorem sumf_zero {f : Nat → Int} : ∀ m, (∀ j, j < m → f j = 0) → sumf f m = 0
  | 0, _ => rfl
  | m + 1, h => by rw [sumf, sumf_zero m (fun j hj => h j (by omega)), h m (by omega)]; rfl
theorem sumf_one {f : Nat → Int} {i : Nat} : ∀ m, i < m → (∀ j, j < m → j ≠ i → f j = 0) → sumf f m = f i
  | m + 1, hi, h => by
    rw [sumf]
    by_cases e : i = m
    · subst e; rw [sumf_zero i (fun j hj => h j (by omega) (by omega))]; omega
    · rw [sumf_one m (by omega) (fun j hj hne => h j (by omega) hne), h m (by omega) (fun x => e x.symm)]; omega
/-- The summand at number j (of 113), and the sum as far as m. -/
def bet (n : Nat) (fr to top : Int) (j : Nat) : Int := ffr n (to - fr + 2 * ((j : Int) - 56) * top) - ffr n (to + fr + 2 * ((j : Int) - 56) * top)
def betS (n : Nat) (fr to top : Int) : Nat → Int := sumf (bet n fr to top)
theorem bet_b {n : Nat} (hn : n ≤ 56) (fr to top : Int) (j : Nat) : -72057594037927936 ≤ bet n fr to top j ∧ bet n fr to top j ≤ 72057594037927936 := by
  have h1 := ffr_b56 hn (to - fr + 2 * ((j : Int) - 56) * top)
  have h2 := ffr_b56 hn (to + fr + 2 * ((j : Int) - 56) * top)
  unfold bet; omega
theorem betS_b {n : Nat} (hn : n ≤ 56) (fr to top : Int) : ∀ m : Nat, -(72057594037927936 * (m : Int)) ≤ betS n fr to top m ∧ betS n fr to top m ≤ 72057594037927936 * (m : Int)
  | 0 => by simp [betS, sumf]
  | m + 1 => by
    have h1 := betS_b hn fr to top m
    have h2 := bet_b hn fr to top m
    unfold betS at *
    simp only [sumf]; omega
theorem betS_step (n : Nat) (fr h top : Int) (m : Nat) : betS (n + 1) fr h top m = betS n fr (h - 1) top m + betS n fr (h + 1) top m := by
  unfold betS
  rw [← sumf_add]
  refine sumf_congr m fun j _ => ?_
  unfold bet
  simp only [ffr]
  generalize 2 * ((j : Int) - 56) * top = q
  rw [show h - fr + q - 1 = h - 1 - fr + q by omega, show h - fr + q + 1 = h + 1 - fr + q by omega, show h + fr + q - 1 = h - 1 + fr + q by omega, show h + fr + q + 1 = h + 1 + fr + q by omega]
  omega
theorem betS_zero (n : Nat) (fr top : Int) : betS n fr 0 top 113 = 0 := by
  unfold betS
  have e1 : sumf (bet n fr 0 top) 113 = sumf (fun j => ffr n (fr - 2 * ((j : Int) - 56) * top)) 113 - sumf (fun j => ffr n (fr + 2 * ((j : Int) - 56) * top)) 113 := by
    rw [← sumf_sub]
    refine sumf_congr _ fun j _ => ?_
    unfold bet
    generalize 2 * ((j : Int) - 56) * top = q
    rw [show 0 - fr + q = -(fr - q) by omega, ffr_neg, Int.zero_add]
  have e2 : sumf (fun j => ffr n (fr - 2 * ((j : Int) - 56) * top)) 113 = sumf (fun j => ffr n (fr + 2 * ((j : Int) - 56) * top)) 113 := by
    rw [sumf_rev]
    refine sumf_congr _ fun j hj => ?_
    refine congrArg (ffr n) ?_
    rw [show ((113 - 1 - j : Nat) : Int) - 56 = -((j : Int) - 56) by omega, show 2 * -((j : Int) - 56) = -(2 * ((j : Int) - 56)) by omega, Int.neg_mul]
    omega
  rw [e1, e2]; omega
theorem betS_top {n : Nat} (hn : n ≤ 56) {fr top : Int} (h1 : 1 ≤ fr) (h2 : fr < top) : betS n fr top top 113 = 0 := by
  unfold betS
  have e1 : sumf (bet n fr top top) 113 = sumf (fun j => ffr n (fr + top - 2 * ((j : Int) - 55) * top)) 113 - sumf (fun j => ffr n (fr + top + 2 * ((j : Int) - 56) * top)) 113 := by
    rw [← sumf_sub]
    refine sumf_congr _ fun j _ => ?_
    unfold bet
    have e : 2 * ((j : Int) - 55) * top = 2 * ((j : Int) - 56) * top + 2 * top := by rw [show 2 * ((j : Int) - 55) = 2 * ((j : Int) - 56) + 2 by omega, Int.add_mul]
    rw [e]
    generalize 2 * ((j : Int) - 56) * top = q
    rw [show top - fr + q = -(fr + top - (q + 2 * top)) by omega, ffr_neg, show top + fr + q = fr + top + q by omega]
  have e2 : sumf (fun j => ffr n (fr + top - 2 * ((j : Int) - 55) * top)) 113 = sumf (fun j => ffr n (fr + top + 2 * ((j : Int) - 57) * top)) 113 := by
    rw [sumf_rev]
    refine sumf_congr _ fun j hj => ?_
    refine congrArg (ffr n) ?_
    rw [show ((113 - 1 - j : Nat) : Int) - 55 = -((j : Int) - 57) by omega, show 2 * -((j : Int) - 57) = -(2 * ((j : Int) - 57)) by omega, Int.neg_mul]
    omega
  have e3 : sumf (fun j => ffr n (fr + top + 2 * ((j : Int) - 57) * top)) 113 = sumf (fun j => ffr n (fr + top + 2 * ((j : Int) - 56) * top)) 113 := by
    rw [sumf_first _ 112]
    show _ = sumf _ 112 + ffr n (fr + top + 2 * (((112 : Nat) : Int) - 56) * top)
    have z1 : ffr n (fr + top + 2 * (((0 : Nat) : Int) - 57) * top) = 0 := ffr_far n _ (.inr (by omega))
    have z2 : ffr n (fr + top + 2 * (((112 : Nat) : Int) - 56) * top) = 0 := ffr_far n _ (.inl (by omega))
    rw [z1, z2, Int.zero_add, Int.add_zero]
    refine sumf_congr _ fun j hj => ?_
    show ffr n (fr + top + 2 * (((j + 1 : Nat) : Int) - 57) * top) = _
    rw [show ((j + 1 : Nat) : Int) - 57 = (j : Int) - 56 by omega]
  rw [e1, e2, e3]; omega
theorem betS_start {fr h top : Int} (h1 : 1 ≤ fr) (h2 : fr < top) (h3 : 0 < h) (h4 : h < top) : betS 0 fr h top 113 = if h = fr then 1 else 0 := by
  unfold betS
  rw [sumf_one (i := 56) 113 (by omega) (fun j hj hne => ?_)]
  · unfold bet
    simp only [ffr]
    rw [show (((56 : Nat) : Int) - 56) = 0 by omega, Int.mul_zero, Int.zero_mul, Int.add_zero, Int.add_zero, if_neg (show ¬ h + fr = 0 by omega)]
    by_cases e : h = fr
    · subst e; rw [if_pos (by omega), if_pos rfl]; rfl
    · rw [if_neg (by omega), if_neg e]; rfl
  · unfold bet
    simp only [ffr]
    have hq : 2 * top ≤ 2 * ((j : Int) - 56) * top ∨ 2 * ((j : Int) - 56) * top ≤ -(2 * top) := by
      rcases (by omega : (1 : Int) ≤ (j : Int) - 56 ∨ (j : Int) - 56 ≤ -1) with h | h
      · left
        exact Int.mul_le_mul_of_nonneg_right (show (2 : Int) ≤ 2 * ((j : Int) - 56) by omega) (by omega)
      · right
        have := Int.mul_le_mul_of_nonneg_right (show 2 * ((j : Int) - 56) ≤ -2 by omega) (show (0 : Int) ≤ top by omega)
        omega
    generalize 2 * ((j : Int) - 56) * top = q at *
    rw [if_neg (by omega), if_neg (by omega)]; rfl
theorem wN_in {fr top : Int} (h1 : 1 ≤ fr) (h2 : fr < top) : ∀ n, n ≤ 56 → ∀ h, 0 ≤ h → h ≤ top → wN (mIn top) fr n h = betS n fr h top 113
  | 0, _, h, g1, g2 => by
    by_cases e0 : h = 0
    · subst e0; rw [betS_zero, wN_off]; simp [mIn]
    by_cases e1 : h = top
    · subst e1; rw [betS_top (by omega) h1 h2, wN_off]; simp [mIn]
    rw [betS_start h1 h2 (by omega) (by omega)]
    simp only [wN]
    have hm : mIn top 0 fr = true := by simp [mIn]; omega
    rw [hm]; simp
  | n + 1, hn, h, g1, g2 => by
    by_cases e0 : h = 0
    · subst e0; rw [betS_zero, wN_off]; simp [mIn]
    by_cases e1 : h = top
    · subst e1; rw [betS_top (by omega) h1 h2, wN_off]; simp [mIn]
    rw [betS_step]
    simp only [wN]
    rw [if_pos (by simp [mIn]; omega), wN_in h1 h2 n (by omega) _ (by omega) (by omega), wN_in h1 h2 n (by omega) _ (by omega) (by omega)]
def betV (n : Nat) (fr to top : Int) : Int := if fr < 1 ∨ to < 1 ∨ top ≤ fr ∨ top ≤ to then 0 else betS n fr to top 113
theorem between_is {n : Nat} (hn : n ≤ 56) (fr to top : Int) : wN (mIn top) fr n to = betV n fr to top := by
  unfold betV
  by_cases h : fr < 1 ∨ top ≤ fr
  · rw [if_pos (by omega), wN_no]; simp [mIn]; omega
  · by_cases h2 : to < 1 ∨ top ≤ to
    · rw [if_pos (by omega), wN_off]; simp [mIn]; omega
    · rw [if_neg (by omega), wN_in (by omega) (by omega) n hn to (by omega) (by omega)]
theorem wN_first {n : Nat} : ∀ s h, s + 1 < n → wN (mFirst n) 0 (s + 1) h = if h = 0 then 0 else if 0 < h then ffr s (h - 1) - ffr s (h + 1) else ffr s (-h - 1) - ffr s (-h + 1)
  | s, h, hs => by
    by_cases e : h = 0
    · subst e; rw [if_pos rfl, wN_off]; simp [mFirst]; omega
    rw [if_neg e]
    simp only [wN]
    rw [if_pos (by simp [mFirst, e])]
    cases s with
    | zero =>
      simp only [wN, ffr]
      have hm : mFirst n 0 0 = true := by simp [mFirst]
      rw [hm]
      by_cases hp : 0 < h
      · rw [if_pos hp]
        by_cases e1 : h = 1
        · subst e1; rfl
        · rw [if_neg (by omega), if_neg (by omega), if_neg (by omega), if_neg (by omega)]; rfl
      · rw [if_neg hp]
        by_cases e1 : h = -1
        · subst e1; rfl
        · rw [if_neg (by omega), if_neg (by omega), if_neg (by omega), if_neg (by omega)]; rfl
    | succ s =>
      rw [wN_first s _ (by omega), wN_first s _ (by omega)]
      by_cases hp : 0 < h
      · rw [if_pos hp, if_neg (show ¬ h + 1 = 0 by omega), if_pos (show 0 < h + 1 by omega)]
        by_cases e1 : h = 1
        · subst e1
          rw [if_pos (by omega)]
          simp only [ffr]
          have := ffr_neg s 1
          rw [show (1 : Int) + 1 - 1 = 1 by omega, show (1 : Int) - 1 - 1 = -1 by omega, show (1 : Int) - 1 + 1 = 1 by omega, this]
          omega
        · rw [if_neg (by omega), if_pos (by omega)]
          simp only [ffr]
          rw [show h - 1 + 1 = h by omega, show h + 1 - 1 = h by omega]
          omega
      · rw [if_neg hp, if_neg (show ¬ h - 1 = 0 by omega), if_neg (show ¬ 0 < h - 1 by omega)]
        by_cases e1 : h = -1
        · subst e1
          rw [if_pos (by omega)]
          simp only [ffr]
          have := ffr_neg s 1
          rw [show -(-1 - 1 : Int) - 1 = 1 by omega, show -(-1 - 1 : Int) + 1 = 3 by omega, show -(-1 : Int) - 1 - 1 = -1 by omega, show -(-1 : Int) - 1 + 1 = 1 by omega, show -(-1 : Int) + 1 - 1 = 1 by omega, show -(-1 : Int) + 1 + 1 = 3 by omega, this]
          omega
        · rw [if_neg (by omega), if_neg (by omega)]
          simp only [ffr]
          rw [show -(h - 1) - 1 = -h by omega, show -(h - 1) + 1 = -h + 1 + 1 by omega, show -(h + 1) - 1 = -h - 1 - 1 by omega, show -(h + 1) + 1 = -h by omega, show -h - 1 + 1 = -h by omega, show -h + 1 - 1 = -h by omega]
          omega
def firstV (n : Nat) : Int := if n < 2 ∨ n % 2 = 1 then 0 else 2 * aboveV (n - 2) 1 1
theorem first_is (n : Nat) (h0 : n ≠ 0) : wN (mFirst n) 0 n 0 = firstV n := by
  unfold firstV
  obtain ⟨m, rfl⟩ : ∃ m, n = m + 1 := ⟨n - 1, by omega⟩
  simp only [wN]
  rw [if_pos (by simp [mFirst])]
  cases m with
  | zero =>
    rw [if_pos (by omega)]
    simp [wN]
  | succ m =>
    rw [wN_first m _ (by omega), wN_first m _ (by omega), if_neg (by omega), if_neg (by omega), if_neg (by omega), if_pos (by omega)]
    have e1 : (-(0 - 1 : Int) - 1) = 0 := by omega
    have e2 : (-(0 - 1 : Int) + 1) = 2 := by omega
    have e3 : ((0 + 1 : Int) - 1) = 0 := by omega
    have e4 : ((0 + 1 : Int) + 1) = 2 := by omega
    rw [e1, e2, e3, e4]
    by_cases hp : (m + 1 + 1) % 2 = 1
    · rw [if_pos (.inr hp), ffr_odd m 0 (by omega), ffr_odd m 2 (by omega)]; rfl
    · rw [if_neg (by omega)]
      unfold aboveV
      rw [if_neg (by omega), show m + 1 + 1 - 2 = m by omega, show (1 : Int) - 1 = 0 by omega, show (1 : Int) + 1 = 2 by omega]
      omega
theorem wN_nn : ∀ n h, -1 ≤ h → wN mNn 0 n h = ffr n h - ffr n (h + 2)
  | 0, h, hh => by
    simp only [wN, ffr, mNn, decide_eq_true_eq]
    split <;> split <;> split <;> omega
  | n + 1, h, hh => by
    by_cases e : h = -1
    · subst e
      rw [wN_off _ (by simp [mNn]), show (-1 : Int) + 2 = 1 by omega, ffr_neg, Int.sub_self]
    · simp only [wN, ffr]
      rw [if_pos (by simp [mNn]; omega), wN_nn n _ (by omega), wN_nn n _ (by omega), show h - 1 + 2 = h + 2 - 1 by omega, show h + 1 + 2 = h + 2 + 1 by omega]
      omega
theorem catalan_is (n : Nat) : wN mNn 0 n 0 = aboveV n 1 1 := by
  unfold aboveV
  rw [if_neg (by omega), wN_nn n 0 (by omega)]
  rfl
end Go.Proofs.YtmibifmabkaakaaDoor
