/- Package dice, told plainly. Nothing of the program. No condition. -/
import Derived.Test.YtmibifmabkaakaaDoorBase2
namespace Go.Proofs.YtmibifmabkaakaaDoor
open Go.ChangeShapes Go.WideShapes Go.ChangeAt Go.RowKit
set_option linter.unusedVariables false

def dk (l : List Int) (k : Nat) : Int := l.getD k 0
theorem dk_get {l : List Int} {k : Nat} (h : k < l.length) : dk l k = l[k] := by unfold dk; simp [List.getD, h]
theorem dk_out {l : List Int} {k : Nat} (h : l.length ≤ k) : dk l k = 0 := by unfold dk; simp [List.getD, h]
/-- Counts that may be. -/
structure DOk (l : List Int) : Prop where
  len : l.length ≤ 200
  one : ∀ k, k < l.length → 0 ≤ dk l k ∧ dk l k ≤ 1048576
  last : 0 < l.length → dk l (l.length - 1) ≠ 0
open Classical in
noncomputable def dokB (l : List Int) : Bool := decide (DOk l)
theorem dokF {l : List Int} (h : ¬ DOk l) : dokB l = false := by unfold dokB; simp [h]
theorem dokT {l : List Int} (h : DOk l) : dokB l = true := by unfold dokB; simp [h]
theorem DOk.b {l : List Int} (h : DOk l) (k : Nat) : 0 ≤ dk l k ∧ dk l k ≤ 1048576 := by
  by_cases hk : k < l.length
  · exact h.one k hk
  · rw [dk_out (by omega)]; omega
theorem DOk.nil : DOk [] := ⟨by simp, fun k h => by simp at h, fun h => by simp at h⟩

/-- One row, as far as place j: what those that h picks come to. -/
def racc (h : Nat → Nat → Bool) (a b : List Int) (i : Nat) : Nat → Int
  | 0 => 0
  | j + 1 => racc h a b i j + if h i j then dk a i * dk b j else 0
/-- All rows ahead of row i. -/
def tacc (h : Nat → Nat → Bool) (a b : List Int) : Nat → Int
  | 0 => 0
  | i + 1 => tacc h a b i + racc h a b i b.length
def acc (h : Nat → Nat → Bool) (a b : List Int) (i j : Nat) : Int := tacc h a b i + racc h a b i j
theorem acc_zero (h : Nat → Nat → Bool) (a b : List Int) : acc h a b 0 0 = 0 := rfl
theorem acc_step (h : Nat → Nat → Bool) (a b : List Int) (i j : Nat) : acc h a b i (j + 1) = acc h a b i j + if h i j then dk a i * dk b j else 0 := by
  unfold acc; simp only [racc]; omega
theorem acc_row (h : Nat → Nat → Bool) (a b : List Int) (i : Nat) : acc h a b (i + 1) 0 = acc h a b i b.length := by unfold acc; simp only [racc, tacc]; omega
theorem prod_b {a b : List Int} (ha : DOk a) (hb : DOk b) (i j : Nat) : 0 ≤ dk a i * dk b j ∧ dk a i * dk b j ≤ 1099511627776 := by
  have h1 := ha.b i
  have h2 := hb.b j
  exact ⟨Int.mul_nonneg h1.1 h2.1, Int.le_trans (Int.mul_le_mul h1.2 h2.2 h2.1 (by omega)) (by omega)⟩
theorem racc_b {a b : List Int} (ha : DOk a) (hb : DOk b) (h : Nat → Nat → Bool) (i : Nat) : ∀ j, 0 ≤ racc h a b i j ∧ racc h a b i j ≤ 1099511627776 * j
  | 0 => by simp [racc]
  | j + 1 => by
    have ih := racc_b ha hb h i j
    have hp := prod_b ha hb i j
    simp only [racc]
    split <;> omega
theorem tacc_b {a b : List Int} (ha : DOk a) (hb : DOk b) (h : Nat → Nat → Bool) : ∀ i, 0 ≤ tacc h a b i ∧ tacc h a b i ≤ 219902325555200 * i
  | 0 => by simp [tacc]
  | i + 1 => by
    have ih := tacc_b ha hb h i
    have hr := racc_b ha hb h i b.length
    have := hb.len
    simp only [tacc]
    omega
theorem acc_b {a b : List Int} (ha : DOk a) (hb : DOk b) (h : Nat → Nat → Bool) (i j : Nat) (hi : i ≤ 200) (hj : j ≤ 200) : 0 ≤ acc h a b i j ∧ acc h a b i j ≤ 44200367436595200 := by
  have h1 := tacc_b ha hb h i
  have h2 := racc_b ha hb h i j
  unfold acc
  omega
/-- Which pairs are picked. -/
def hSum (k : Nat) : Nat → Nat → Bool := fun x y => decide (x + y = k)
def hMost (k : Nat) : Nat → Nat → Bool := fun x y => decide (max x y = k)
def hUp : Nat → Nat → Bool := fun x y => decide (y < x)
def hLike : Nat → Nat → Bool := fun x y => decide (x = y)
theorem racc_none {h : Nat → Nat → Bool} {a b : List Int} {i : Nat} : ∀ j, (∀ y, y < j → h i y = false) → racc h a b i j = 0
  | 0, _ => rfl
  | j + 1, hh => by
    simp only [racc]
    rw [racc_none j (fun y hy => hh y (by omega)), hh j (by omega)]
    simp
theorem tacc_none {h : Nat → Nat → Bool} {a b : List Int} : ∀ i, (∀ x y, x < i → y < b.length → h x y = false) → tacc h a b i = 0
  | 0, _ => rfl
  | i + 1, hh => by
    simp only [tacc]
    rw [tacc_none i (fun x y hx hy => hh x y (by omega) hy), racc_none _ (fun y hy => hh i y (by omega) hy)]
    rfl
theorem racc_one {h : Nat → Nat → Bool} {a b : List Int} (ha : DOk a) (hb : DOk b) {i y : Nat} (hy : h i y = true) : ∀ j, y < j → dk a i * dk b y ≤ racc h a b i j
  | 0, hj => by omega
  | j + 1, hj => by
    simp only [racc]
    by_cases e : y = j
    · subst e
      rw [hy]
      have := (racc_b ha hb h i y).1
      simp; omega
    · have ih := racc_one ha hb hy j (by omega)
      have := (prod_b ha hb i j).1
      split <;> omega
theorem tacc_one {h : Nat → Nat → Bool} {a b : List Int} (ha : DOk a) (hb : DOk b) {x y : Nat} (hy : y < b.length) (hh : h x y = true) : ∀ i, x < i → dk a x * dk b y ≤ tacc h a b i
  | 0, hi => by omega
  | i + 1, hi => by
    simp only [tacc]
    by_cases e : x = i
    · subst e
      have := racc_one ha hb hh b.length hy
      have := (tacc_b ha hb h x).1
      omega
    · have ih := tacc_one ha hb hy hh i (by omega)
      have := (racc_b ha hb h i b.length).1
      omega
theorem DOk.pos {l : List Int} (h : DOk l) (h0 : 0 < l.length) : 1 ≤ dk l (l.length - 1) := by
  have h1 := h.last h0
  have h2 := (h.b (l.length - 1)).1
  omega
/-- What all pairs of one sum come to. -/
def dsum (a b : List Int) (k : Nat) : Int := tacc (hSum k) a b a.length
def dmost (a b : List Int) (k : Nat) : Int := tacc (hMost k) a b a.length
theorem dsum_out {a b : List Int} {k : Nat} (h : a.length = 0 ∨ b.length = 0 ∨ a.length + b.length - 1 ≤ k) : dsum a b k = 0 :=
  tacc_none _ fun x y hx hy => by unfold hSum; simp; omega
theorem dsum_last {a b : List Int} (ha : DOk a) (hb : DOk b) (h1 : 0 < a.length) (h2 : 0 < b.length) : 0 < dsum a b (a.length + b.length - 1 - 1) := by
  have h3 := tacc_one (h := hSum (a.length + b.length - 1 - 1)) ha hb (x := a.length - 1) (y := b.length - 1) (by omega) (by unfold hSum; simp; omega) a.length (by omega)
  have p1 := ha.pos h1
  have p2 := hb.pos h2
  have : 1 ≤ dk a (a.length - 1) * dk b (b.length - 1) := Int.mul_pos (by omega) (by omega)
  unfold dsum
  omega
theorem dmost_out {a b : List Int} {k : Nat} (h : a.length = 0 ∨ b.length = 0 ∨ max a.length b.length ≤ k) : dmost a b k = 0 :=
  tacc_none _ fun x y hx hy => by unfold hMost; simp; omega
theorem dmost_last {a b : List Int} (ha : DOk a) (hb : DOk b) (h1 : 0 < a.length) (h2 : 0 < b.length) : 0 < dmost a b (max a.length b.length - 1) := by
  have h3 := tacc_one (h := hMost (max a.length b.length - 1)) ha hb (x := a.length - 1) (y := b.length - 1) (by omega) (by unfold hMost; simp; omega) a.length (by omega)
  have p1 := ha.pos h1
  have p2 := hb.pos h2
  have : 1 ≤ dk a (a.length - 1) * dk b (b.length - 1) := Int.mul_pos (by omega) (by omega)
  unfold dmost
  omega
/-- Sums of the first ones. -/
def dup (l : List Int) : Nat → Int
  | 0 => 0
  | k + 1 => dup l k + dk l k
theorem dup_b {l : List Int} (h : DOk l) : ∀ k, 0 ≤ dup l k ∧ dup l k ≤ 1048576 * k
  | 0 => by simp [dup]
  | k + 1 => by have := dup_b h k; have := h.b k; simp only [dup]; omega
def hLe (k : Nat) : Nat → Nat → Bool := fun x y => decide (x < k ∧ y < k)
theorem dup_min {l : List Int} : ∀ k, dup l k = dup l (min k l.length)
  | 0 => by simp
  | k + 1 => by
    by_cases h : k < l.length
    · rw [Nat.min_eq_left (by omega)]
    · rw [Nat.min_eq_right (by omega)]
      simp only [dup]
      rw [dk_out (by omega), dup_min k, Nat.min_eq_right (by omega)]
      omega
theorem racc_le (k : Nat) (a b : List Int) (i : Nat) : ∀ j, racc (hLe k) a b i j = if i < k then dk a i * dup b (min k j) else 0
  | 0 => by simp [racc, dup]
  | j + 1 => by
    simp only [racc]
    rw [racc_le k a b i j]
    unfold hLe
    by_cases h1 : i < k
    · by_cases h2 : j < k
      · rw [if_pos h1, if_pos h1, if_pos (by simp [h1, h2]), Nat.min_eq_right (by omega), Nat.min_eq_right (by omega)]
        simp only [dup]
        rw [Int.mul_add]
      · rw [if_pos h1, if_pos h1, if_neg (by simp; omega), Nat.min_eq_left (by omega), Nat.min_eq_left (by omega)]
        omega
    · rw [if_neg h1, if_neg h1, if_neg (by simp; omega)]; rfl
theorem tacc_le (k : Nat) (a b : List Int) : ∀ i, tacc (hLe k) a b i = dup a (min k i) * dup b (min k b.length)
  | 0 => by simp [tacc, dup]
  | i + 1 => by
    simp only [tacc]
    rw [tacc_le k a b i, racc_le]
    by_cases h1 : i < k
    · rw [if_pos h1, Nat.min_eq_right (by omega : i ≤ k), Nat.min_eq_right (by omega : i + 1 ≤ k)]
      simp only [dup]
      rw [Int.add_mul]
    · rw [if_neg h1, Nat.min_eq_left (by omega : k ≤ i), Nat.min_eq_left (by omega : k ≤ i + 1)]
      omega
theorem racc_add {h1 h2 h3 : Nat → Nat → Bool} {a b : List Int} {i : Nat} (e : ∀ y, (if h3 i y then dk a i * dk b y else 0) = (if h1 i y then dk a i * dk b y else 0) + (if h2 i y then dk a i * dk b y else 0)) : ∀ j, racc h3 a b i j = racc h1 a b i j + racc h2 a b i j
  | 0 => rfl
  | j + 1 => by simp only [racc]; rw [racc_add e j, e j]; omega
theorem tacc_add {h1 h2 h3 : Nat → Nat → Bool} {a b : List Int} (e : ∀ x y, (if h3 x y then dk a x * dk b y else 0) = (if h1 x y then dk a x * dk b y else 0) + (if h2 x y then dk a x * dk b y else 0)) : ∀ i, tacc h3 a b i = tacc h1 a b i + tacc h2 a b i
  | 0 => rfl
  | i + 1 => by simp only [tacc]; rw [tacc_add e i, racc_add (e i)]; omega
/-- The greatest ones, by sums of the first ones. -/
theorem dmost_is (a b : List Int) (k : Nat) : dmost a b k = dup a (k + 1) * dup b (k + 1) - dup a k * dup b k := by
  have h := tacc_add (h1 := hLe k) (h2 := hMost k) (h3 := hLe (k + 1)) (a := a) (b := b) (fun x y => by
    unfold hLe hMost
    by_cases c1 : x < k ∧ y < k
    · rw [if_pos (by simp; omega), if_pos (by simp; omega), if_neg (by simp; omega)]; omega
    · by_cases c2 : max x y = k
      · rw [if_pos (by simp; omega), if_neg (by simp; omega), if_pos (by simp; omega)]; omega
      · rw [if_neg (by simp; omega), if_neg (by simp; omega), if_neg (by simp; omega)]; rfl) a.length
  rw [tacc_le, tacc_le, ← dup_min, ← dup_min, ← dup_min, ← dup_min] at h
  unfold dmost
  omega
end Go.Proofs.YtmibifmabkaakaaDoor
