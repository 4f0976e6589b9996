/- Package stats, the middle: plain. The double sum over pairs; what stands at a place of the sorted list, told by counts. No condition. -/
import Derived.Test.YtmnjgoicppknjaaStaO
import Derived.Test.YtmnjgoicppknjaaSeq
namespace Go.Proofs.Ytmnjgoicppknjaa
open Go.ChangeShapes Go.WideShapes Go.ChangeAt Go.RowKit
set_option linter.unusedVariables false

/-! ### sums -/
def xsum (x y : List Int) : Nat → Int
  | 0 => 0
  | k + 1 => xsum x y k + pat x k * pat y k
def psm (x : List Int) : Nat → Int
  | 0 => 0
  | k + 1 => psm x k + pat x k
def pbi (x y : List Int) (i : Nat) : Nat → Int
  | 0 => 0
  | j + 1 => pbi x y i j + (pat x i - pat x j) * (pat y i - pat y j)
def pbo (x y : List Int) : Nat → Int
  | 0 => 0
  | i + 1 => pbo x y i + pbi x y i i
theorem psm_ssum (x : List Int) : ∀ k, k ≤ x.length → psm x k = ssum (x.take k)
  | 0, _ => rfl
  | k + 1, h => by rw [psm, psm_ssum x k (by omega), pat_take (by omega), ssum_app]; simp [ssum]
theorem psm_all (x : List Int) : psm x x.length = ssum x := by rw [psm_ssum x _ (Nat.le_refl _), List.take_length]
theorem pbi_eq (x y : List Int) (i : Nat) : ∀ j : Nat, pbi x y i j = (j : Int) * (pat x i * pat y i) - pat x i * psm y j - psm x j * pat y i + xsum x y j
  | 0 => by simp [pbi, psm, xsum]
  | j + 1 => by
    rw [pbi, pbi_eq x y i j, psm, psm, xsum, Int.sub_mul, Int.mul_sub, Int.mul_sub]
    have e : ((j + 1 : Nat) : Int) = (j : Int) + 1 := by omega
    rw [e]
    simp only [Int.mul_add, Int.add_mul, Int.one_mul]
    omega
theorem pbo_eq (x y : List Int) : ∀ n : Nat, pbo x y n = (n : Int) * xsum x y n - psm x n * psm y n
  | 0 => by simp [pbo, psm, xsum]
  | n + 1 => by
    rw [pbo, pbo_eq x y n, pbi_eq, psm, psm, xsum]
    have e : ((n + 1 : Nat) : Int) = (n : Int) + 1 := by omega
    rw [e]
    simp only [Int.mul_add, Int.add_mul, Int.one_mul]
    omega
theorem sall_pat {x : List Int} (h : sall x) (i : Nat) : -1048576 ≤ pat x i ∧ pat x i ≤ 1048576 := by
  by_cases hi : i < x.length
  · rw [pat_get hi]; exact h _ (List.getElem_mem hi)
  · have : pat x i = 0 := by simp [pat, List.getD, Nat.le_of_not_lt hi]
    rw [this]; omega
theorem mul_bd {a b : Int} (A B : Nat) (ha : a.natAbs ≤ A) (hb : b.natAbs ≤ B) : -((A * B : Nat) : Int) ≤ a * b ∧ a * b ≤ ((A * B : Nat) : Int) := by
  have h : (a * b).natAbs ≤ A * B := by rw [Int.natAbs_mul]; exact Nat.mul_le_mul ha hb
  omega
theorem xsum_bd {x y : List Int} (hx : sall x) (hy : sall y) : ∀ k : Nat, -((k : Int) * 1099511627776) ≤ xsum x y k ∧ xsum x y k ≤ (k : Int) * 1099511627776
  | 0 => by simp [xsum]
  | k + 1 => by
    have h1 := xsum_bd hx hy k
    have hx1 := sall_pat hx k
    have hy1 := sall_pat hy k
    have h2 := mul_bd (a := pat x k) (b := pat y k) 1048576 1048576 (by omega) (by omega)
    rw [xsum]
    omega
theorem psm_bd {x : List Int} (hx : sall x) : ∀ k : Nat, -((k : Int) * 1048576) ≤ psm x k ∧ psm x k ≤ (k : Int) * 1048576
  | 0 => by simp [psm]
  | k + 1 => by
    have h1 := psm_bd hx k
    have hx1 := sall_pat hx k
    rw [psm]
    omega
theorem pbt_bd {x y : List Int} (hx : sall x) (hy : sall y) (i j : Nat) : -4398046511104 ≤ (pat x i - pat x j) * (pat y i - pat y j) ∧ (pat x i - pat x j) * (pat y i - pat y j) ≤ 4398046511104 := by
  have a1 := sall_pat hx i
  have a2 := sall_pat hx j
  have a3 := sall_pat hy i
  have a4 := sall_pat hy j
  have h2 := mul_bd (a := pat x i - pat x j) (b := pat y i - pat y j) 2097152 2097152 (by omega) (by omega)
  omega
theorem pbi_bd {x y : List Int} (hx : sall x) (hy : sall y) (i : Nat) : ∀ j : Nat, -((j : Int) * 4398046511104) ≤ pbi x y i j ∧ pbi x y i j ≤ (j : Int) * 4398046511104
  | 0 => by simp [pbi]
  | j + 1 => by
    have h1 := pbi_bd hx hy i j
    have h2 := pbt_bd hx hy i j
    rw [pbi]
    omega
theorem pbo_bd {x y : List Int} (hx : sall x) (hy : sall y) : ∀ n : Nat, n ≤ 400 → -((n : Int) * 1759218604441600) ≤ pbo x y n ∧ pbo x y n ≤ (n : Int) * 1759218604441600
  | 0, _ => by simp [pbo]
  | n + 1, h => by
    have h1 := pbo_bd hx hy n (by omega)
    have h2 := pbi_bd hx hy n n
    rw [pbo]
    omega

/-! ### the middle -/
def lessN (zs : List Int) (v : Int) : Nat := zs.countP fun w => decide (w < v)
def sameN (zs : List Int) (v : Int) : Nat := zs.countP fun w => decide (w = v)
def midF (zs : List Int) (k : Int) : List Int → Int
  | [] => 0
  | v :: l => if (lessN zs v : Int) ≤ k ∧ k < (lessN zs v : Int) + (sameN zs v : Int) then v else midF zs k l
def ileN (zs : List Int) (v : Int) : Nat := zs.countP fun w => decide (w ≤ v)
theorem less_same (zs : List Int) (v : Int) : lessN zs v + sameN zs v = ileN zs v := by
  unfold lessN sameN ileN
  induction zs with
  | nil => rfl
  | cons w l ih =>
    simp only [List.countP_cons, decide_eq_true_eq]
    split <;> split <;> split <;> omega
def isort (zs : List Int) : List Int := zs.mergeSort fun x y => decide (x ≤ y)
theorem isort_perm (zs : List Int) : (isort zs).Perm zs := List.mergeSort_perm _ _
theorem isort_len (zs : List Int) : (isort zs).length = zs.length := List.length_mergeSort _
theorem isort_pair (zs : List Int) : (isort zs).Pairwise fun x y => x ≤ y := by
  have h := List.pairwise_mergeSort (le := fun x y : Int => decide (x ≤ y)) (fun a b c h1 h2 => by simp at *; omega) (fun a b => by simp; omega) zs
  exact h.imp (fun h => by simpa using h)
theorem sorted_le {ss : List Int} (h : ss.Pairwise fun x y => x ≤ y) {i j : Nat} (hij : i ≤ j) (hj : j < ss.length) : ss[i] ≤ ss[j] := by
  rcases Nat.lt_or_ge i j with h1 | h1
  · exact List.pairwise_iff_getElem.1 h i j (by omega) hj h1
  · have : i = j := by omega
    subst this; exact Int.le_refl _
theorem countP_low {ss : List Int} (p : Int → Bool) {k : Nat} (hk : k ≤ ss.length) (h : ∀ i (hi : i < ss.length), k ≤ i → p ss[i] = false) : ss.countP p ≤ k := by
  have e : ss.countP p = (ss.take k).countP p + (ss.drop k).countP p := by rw [← List.countP_append, List.take_append_drop]
  have h0 : (ss.drop k).countP p = 0 := by
    rw [List.countP_eq_zero]
    intro a ha
    obtain ⟨i, hi, rfl⟩ := List.getElem_of_mem ha
    rw [List.getElem_drop]
    rw [h _ (by simp at hi; omega) (by omega)]
    simp
  have h1 : (ss.take k).countP p ≤ (ss.take k).length := List.countP_le_length
  rw [List.length_take] at h1
  omega
theorem countP_high {ss : List Int} (p : Int → Bool) {k : Nat} (hk : k ≤ ss.length) (h : ∀ i (hi : i < ss.length), i < k → p ss[i] = true) : k ≤ ss.countP p := by
  have e : ss.countP p = (ss.take k).countP p + (ss.drop k).countP p := by rw [← List.countP_append, List.take_append_drop]
  have h0 : (ss.take k).countP p = (ss.take k).length := by
    rw [List.countP_eq_length]
    intro a ha
    obtain ⟨i, hi, rfl⟩ := List.getElem_of_mem ha
    rw [List.getElem_take]
    exact h _ (by simp at hi; omega) (by simp at hi; omega)
  rw [List.length_take] at h0
  omega
theorem mid_iff (zs : List Int) {k : Nat} (hk : k < zs.length) (v : Int) : ((lessN zs v : Int) ≤ (k : Int) ∧ (k : Int) < (lessN zs v : Int) + (sameN zs v : Int)) ↔ v = pat (isort zs) k := by
  have hl := isort_len zs
  have hp := isort_perm zs
  have hs := isort_pair zs
  have e1 : lessN zs v = lessN (isort zs) v := (hp.countP_eq _).symm
  have e2 : ileN zs v = ileN (isort zs) v := (hp.countP_eq _).symm
  have e3 := less_same zs v
  have hks : k < (isort zs).length := by omega
  rw [pat_get hks]
  generalize isort zs = ss at *
  constructor
  · rintro ⟨h1, h2⟩
    rcases (by omega : v < ss[k] ∨ v = ss[k] ∨ ss[k] < v) with h | h | h
    · have h3 : ileN ss v ≤ k := countP_low (ss := ss) (fun w => decide (w ≤ v)) (k := k) (by omega) (fun i hi hki => by have := sorted_le hs hki hi; simp; omega)
      omega
    · exact h
    · have h3 : k + 1 ≤ lessN ss v := countP_high (ss := ss) (fun w => decide (w < v)) (k := k + 1) (by omega) (fun i hi hki => by have := sorted_le hs (show i ≤ k by omega) hks; simp; omega)
      omega
  · intro h
    have h1 : lessN ss v ≤ k := countP_low (ss := ss) (fun w => decide (w < v)) (k := k) (by omega) (fun i hi hki => by have := sorted_le hs hki hi; simp; omega)
    have h2 : k + 1 ≤ ileN ss v := countP_high (ss := ss) (fun w => decide (w ≤ v)) (k := k + 1) (by omega) (fun i hi hki => by have := sorted_le hs (show i ≤ k by omega) hks; simp; omega)
    omega
theorem midF_hit (zs : List Int) {k : Nat} (hk : k < zs.length) : ∀ l : List Int, pat (isort zs) k ∈ l → midF zs k l = pat (isort zs) k
  | [], h => by simp at h
  | v :: l, h => by
    rw [midF]
    by_cases hv : v = pat (isort zs) k
    · rw [if_pos ((mid_iff zs hk v).2 hv), hv]
    · rw [if_neg (fun q => hv ((mid_iff zs hk v).1 q))]
      refine midF_hit zs hk l ?_
      rcases List.mem_cons.1 h with h | h
      · exact absurd h.symm hv
      · exact h
theorem midF_all (zs : List Int) {k : Nat} (hk : k < zs.length) : midF zs k zs = pat (isort zs) k :=
  midF_hit zs hk zs ((isort_perm zs).mem_iff.1 (by rw [pat_get (by rw [isort_len]; exact hk)]; exact List.getElem_mem _))
end Go.Proofs.Ytmnjgoicppknjaa
