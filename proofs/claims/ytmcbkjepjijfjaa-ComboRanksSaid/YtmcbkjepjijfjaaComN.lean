/- Choices that rise, and what they leave: plain. No condition. -/
import Derived.Test.YtmcbkjepjijfjaaBase
namespace Go.Proofs.Ytmcbkjepjijfjaa

def zat (zs : List Int) (k : Nat) : Int := zs.getD k 0
theorem zat_get {zs : List Int} {k : Nat} (h : k < zs.length) : zat zs k = zs[k] := by simp [zat, h]
def eprev (zs : List Int) : Nat → Int
  | 0 => -1
  | k + 1 => zat zs k
def eokc (n : Int) (zs : List Int) : Nat → Bool
  | 0 => true
  | k + 1 => eokc n zs k && (decide (eprev zs k < zat zs k) && decide (zat zs k < n))
def eright (n : Int) (zs : List Int) : Bool := decide (0 ≤ n ∧ n ≤ 60) && eokc n zs zs.length
theorem eokc_false {n : Int} {zs : List Int} {j m : Nat} (h : eokc n zs j = false) (hm : j ≤ m) : eokc n zs m = false := by
  induction m with
  | zero => obtain rfl : j = 0 := by omega
            exact h
  | succ m ih =>
    by_cases e : j = m + 1
    · subst e; exact h
    · show (eokc n zs m && _) = false
      rw [ih (by omega)]; rfl
theorem eokc_pre {n : Int} {zs : List Int} {j m : Nat} (h : eokc n zs m = true) (hj : j ≤ m) : eokc n zs j = true := by
  cases e : eokc n zs j
  · rw [eokc_false e hj] at h; cases h
  · rfl
theorem eokc_at {n : Int} {zs : List Int} {j m : Nat} (h : eokc n zs m = true) (hj : j < m) : eprev zs j < zat zs j ∧ zat zs j < n := by
  have h1 := eokc_pre h (show j + 1 ≤ m from hj)
  have h2 : (eokc n zs j && (decide (eprev zs j < zat zs j) && decide (zat zs j < n))) = true := h1
  simp at h2
  exact h2.2
theorem eokc_nn {n : Int} {zs : List Int} {j m : Nat} (h : eokc n zs m = true) (hj : j < m) : 0 ≤ zat zs j := by
  induction j with
  | zero => have : (-1 : Int) < zat zs 0 := (eokc_at h hj).1; omega
  | succ j ih => have h1 : zat zs j < zat zs (j + 1) := (eokc_at h hj).1; have h2 := ih (by omega); omega
theorem eokc_lt {n : Int} {zs : List Int} {i j m : Nat} (h : eokc n zs m = true) (hij : i < j) (hj : j < m) : zat zs i < zat zs j := by
  induction j with
  | zero => omega
  | succ j ih =>
    have h1 : zat zs j < zat zs (j + 1) := (eokc_at h hj).1
    by_cases e : i = j
    · subst e; exact h1
    · have := ih (by omega) (by omega); omega
def rj (zs : List Int) : Nat → Nat
  | 0 => 0
  | x + 1 => if rj zs x < zs.length ∧ zat zs (rj zs x) = x then rj zs x + 1 else rj zs x
def ro (zs : List Int) : Nat → List Int
  | 0 => []
  | x + 1 => if rj zs x < zs.length ∧ zat zs (rj zs x) = x then ro zs x else ro zs x ++ [(x : Int)]
def rw_ (zs : List Int) : Nat → List Int
  | 0 => []
  | x + 1 => if (x : Int) ∈ zs then rw_ zs x else rw_ zs x ++ [(x : Int)]
theorem rj_le (zs : List Int) (x : Nat) : rj zs x ≤ zs.length := by
  induction x with
  | zero => exact Nat.zero_le _
  | succ x ih => unfold rj; split <;> omega
theorem ro_len (zs : List Int) (x : Nat) : (ro zs x).length ≤ x := by
  induction x with
  | zero => exact Nat.le_refl _
  | succ x ih =>
    unfold ro; split
    · omega
    · simp; omega
theorem rw_len (zs : List Int) (x : Nat) : (rw_ zs x).length ≤ x := by
  induction x with
  | zero => exact Nat.le_refl _
  | succ x ih =>
    unfold rw_; split
    · omega
    · simp; omega
theorem rj_inv {n : Int} {zs : List Int} (h : eokc n zs zs.length = true) (x : Nat) : ∀ i, i < zs.length → (i < rj zs x ↔ zat zs i < x) := by
  induction x with
  | zero => intro i hi; have := eokc_nn h hi; show i < 0 ↔ _; omega
  | succ x ih =>
    intro i hi
    have hi1 := ih i hi
    show i < (if rj zs x < zs.length ∧ zat zs (rj zs x) = x then rj zs x + 1 else rj zs x) ↔ _
    split
    · next h1 =>
      by_cases e : i = rj zs x
      · subst e; rw [h1.2]; omega
      · by_cases e2 : i < rj zs x
        · have := hi1.1 e2; omega
        · have := eokc_lt h (show rj zs x < i by omega) hi
          rw [h1.2] at this; omega
    · next h1 =>
      constructor
      · intro h2; have := hi1.1 h2; omega
      · intro h2
        rw [hi1]
        by_cases e : zat zs i = x
        · exfalso
          have e3 : ¬ i < rj zs x := by rw [hi1]; omega
          by_cases e4 : i = rj zs x
          · subst e4; exact h1 ⟨hi, e⟩
          · have h5 := eokc_lt h (show rj zs x < i by omega) hi
            have h6 := (ih (rj zs x) (by omega)).2 (by omega)
            omega
        · omega
theorem rj_mem {n : Int} {zs : List Int} (h : eokc n zs zs.length = true) (x : Nat) : (rj zs x < zs.length ∧ zat zs (rj zs x) = x) ↔ (x : Int) ∈ zs := by
  constructor
  · rintro ⟨h1, h2⟩
    rw [← h2, zat_get h1]
    exact List.getElem_mem h1
  · intro hm
    obtain ⟨i, hi, e⟩ := List.getElem_of_mem hm
    rw [← zat_get hi] at e
    have h1 : ¬ i < rj zs x := by rw [rj_inv h x i hi]; omega
    have h2 : ¬ rj zs x < i := fun h2 => by
      have h5 := eokc_lt h h2 hi
      have h6 := (rj_inv h x (rj zs x) (by omega)).2 (by omega)
      omega
    have : i = rj zs x := by omega
    subst this
    exact ⟨hi, e⟩
theorem ro_eq {n : Int} {zs : List Int} (h : eokc n zs zs.length = true) (x : Nat) : ro zs x = rw_ zs x := by
  induction x with
  | zero => rfl
  | succ x ih =>
    unfold ro rw_
    rw [ih]
    by_cases hm : (x : Int) ∈ zs
    · rw [if_pos ((rj_mem h x).2 hm), if_pos hm]
    · rw [if_neg (fun h2 => hm ((rj_mem h x).1 h2)), if_neg hm]
end Go.Proofs.Ytmcbkjepjijfjaa
