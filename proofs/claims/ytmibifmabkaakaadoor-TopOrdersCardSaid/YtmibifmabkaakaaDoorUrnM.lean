/- Plain facts on ways to put some into others. No condition. -/
import Derived.Test.YtmibifmabkaakaaDoorBinM
namespace Go.Proofs.YtmibifmabkaakaaDoor

/-- In how many ways n are put into k heaps that look alike, none empty. -/
def stir : Nat → Nat → Nat
  | 0, 0 => 1
  | 0, _ + 1 => 0
  | _ + 1, 0 => 0
  | n + 1, k + 1 => (k + 1) * stir n (k + 1) + stir n k
theorem stir_succ (n k : Nat) : stir (n + 1) (k + 1) = (k + 1) * stir n (k + 1) + stir n k := rfl
theorem stir_gt {n k : Nat} (h : n < k) : stir n k = 0 := by
  induction n generalizing k with
  | zero => cases k with
    | zero => omega
    | succ k => rfl
  | succ n ih => cases k with
    | zero => omega
    | succ k => rw [stir_succ, ih (by omega), ih (by omega)]; simp
theorem stir_small0 : ∀ n : Fin 21, ∀ k : Fin 21, stir n.val k.val ≤ 17592186044416 := by decide +kernel
theorem stir_small {n k : Nat} (h : n ≤ 20) (hk : k ≤ 20) : stir n k ≤ 17592186044416 := stir_small0 ⟨n, by omega⟩ ⟨k, by omega⟩
/-- n, times all below it. -/
def fct : Nat → Nat
  | 0 => 1
  | n + 1 => (n + 1) * fct n
/-- In how many ways n are put into k heaps, none empty. -/
def onto (n k : Nat) : Nat := stir n k * fct k
theorem onto_small0 : ∀ n : Fin 15, ∀ k : Fin 15, ∀ j : Fin 15, j.val ≤ k.val → stir n.val k.val * fct j.val ≤ 1152921504606846976 := by decide +kernel
/-- The sum over all but those that leave some out: of the numbers from k down to above j. -/
def vsum (n k : Nat) : Nat → Int
  | 0 => 0
  | i + 1 => vsum n k i + (if i % 2 = 0 then 1 else -1) * bin k (k - i) * ((k - i) ^ n : Nat)
theorem vpow_small0 : ∀ n : Fin 15, ∀ k : Fin 15, k.val ^ n.val ≤ 1152921504606846976 := by decide +kernel
theorem vterm_small0 : ∀ k : Fin 15, ∀ i : Fin 15, bin k.val i.val ≤ 3432 := by decide +kernel
theorem vsum_onto0 : ∀ n : Fin 15, ∀ k : Fin 15, k.val ≤ n.val → vsum n.val k.val (k.val + 1) = (onto n.val k.val : Nat) := by decide +kernel
theorem vsum_small0 : ∀ n : Fin 15, ∀ k : Fin 15, ∀ i : Fin 16, k.val ≤ n.val → i.val ≤ k.val + 1 → -1152921504606846976 ≤ vsum n.val k.val i.val ∧ vsum n.val k.val i.val ≤ 1152921504606846976 := by decide +kernel
/-- How many ways there are in all, up to so many heaps. -/
def bsum (n : Nat) : Nat → Nat
  | 0 => 0
  | k + 1 => bsum n k + stir n k
def bell (n : Nat) : Nat := bsum n (n + 1)
theorem bsum_small0 : ∀ n : Fin 21, ∀ k : Fin 22, bsum n.val k.val ≤ 1152921504606846976 := by decide +kernel
/-- By whom the last one is with. -/
def brow (f : Nat → Nat) (m : Nat) : Nat → Nat
  | 0 => 0
  | k + 1 => brow f m k + bin m k * f k
theorem bell_step0 : ∀ m : Fin 20, brow bell m.val (m.val + 1) = bell (m.val + 1) := by decide +kernel
theorem brow_small0 : ∀ m : Fin 20, ∀ k : Fin 21, k.val ≤ m.val + 1 → brow bell m.val k.val ≤ 1152921504606846976 := by decide +kernel
theorem bell_prod0 : ∀ m : Fin 20, ∀ k : Fin 21, k.val ≤ m.val → bin m.val k.val * bell k.val ≤ 1152921504606846976 := by decide +kernel
/-- In how many ways all change places. -/
def drg : Nat → Nat
  | 0 => 1
  | 1 => 0
  | n + 2 => (n + 1) * (drg n + drg (n + 1))
def vdrg : Nat → Int
  | 0 => 1
  | n + 1 => (n + 1) * vdrg n + (if n % 2 = 0 then -1 else 1)
theorem vdrg_eq0 : ∀ n : Fin 21, vdrg n.val = (drg n.val : Nat) := by decide +kernel
theorem drg_small0 : ∀ n : Fin 21, drg n.val ≤ 1152921504606846976 := by decide +kernel
theorem vdrg_small0 : ∀ n : Fin 21, -1152921504606846976 ≤ vdrg n.val ∧ vdrg n.val ≤ 1152921504606846976 := by decide +kernel
end Go.Proofs.YtmibifmabkaakaaDoor
