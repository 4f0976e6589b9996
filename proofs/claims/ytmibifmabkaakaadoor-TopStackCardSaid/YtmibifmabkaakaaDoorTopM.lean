/- Orders that a stack can have, counted up to six: plain. No condition. -/
import Derived.Test.YtmibifmabkaakaaDoorPerZ
import Derived.Test.YtmibifmabkaakaaDoorWalH
namespace Go.Proofs.YtmibifmabkaakaaDoor
def okK (p : List Int) (i j : Nat) : Nat → Bool
  | 0 => true
  | k + 1 => okK p i j k && !(decide (pat p i < pat p k) && decide (pat p k < pat p j))
def okJ (p : List Int) (i : Nat) : Nat → Bool
  | 0 => true
  | j + 1 => okJ p i j && okK p i j j
def okI (p : List Int) : Nat → Bool
  | 0 => true
  | i + 1 => okI p i && okJ p i i
def cntOk (n : Nat) : Nat → Nat
  | 0 => 0
  | r + 1 => cntOk n r + if okI (atL n r) n then 1 else 0
set_option maxRecDepth 4000 in
theorem stack_facts : ∀ n : Fin 7, (∀ r : Fin 720, (r.val < fct n.val) → (atL n.val r.val).length = n.val ∧ atE n.val r.val = 0) ∧ (cntOk n.val (fct n.val) : Int) = aboveV (2 * n.val) 1 1 ∧ fct n.val ≤ 720 := by decide +kernel
theorem cnt_le (n : Nat) : ∀ r, cntOk n r ≤ r
  | 0 => Nat.le_refl _
  | r + 1 => by
    have := cnt_le n r
    unfold cntOk
    split <;> omega
theorem fct_small : ∀ k : Fin 8, fct k.val ≤ 5040 ∧ (k.val ≤ 1 → fct k.val = 1) := by decide +kernel
end Go.Proofs.YtmibifmabkaakaaDoor
