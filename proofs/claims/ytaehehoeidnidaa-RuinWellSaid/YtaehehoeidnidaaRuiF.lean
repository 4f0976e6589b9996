/- Package ruin: the reference's fractions, in plain numbers: what they are for each game, by the kernel. No condition. -/
import Derived.Test.YtaehehoeidnidaaRuiE
import Derived.Test.YtaehehoeidnidaaRatH
namespace Go.Proofs.Ytaehehoeidnidaa
open Go.ChangeShapes Go.WideShapes Go.ChangeAt Go.RowKit
set_option linter.unusedVariables false

def rnext (p q : Int) (u x : Fr) : Fr := fQuo (fSub (fMul x (fNew (p + q) 1)) (fMul u (fNew q 1))) (fNew p 1)
/-- The fractions of k and of k + 1. -/
def rpair (p q : Int) : Nat → Fr × Fr
  | 0 => (fNew 0 1, fNew 1 1)
  | k + 1 => ((rpair p q k).2, rnext p q (rpair p q k).1 (rpair p q k).2)
def rfr (p q : Int) (k : Nat) : Fr := (rpair p q k).1
theorem rfr_two (p q : Int) (k : Nat) : rfr p q (k + 2) = rnext p q (rfr p q k) (rfr p q (k + 1)) := rfl
def rrow (p q : Int) : Nat → Fr → Fr → List Fr
  | 0, u, _ => [u]
  | k + 1, u, x => u :: rrow p q k x (rnext p q u x)
def ffits (x : Fr) : Bool := decide (x.1.natAbs < 18446744073709551616) && decide (x.2.natAbs < 18446744073709551616) && decide (0 < x.2) && decide (0 ≤ x.1)
def rcheck1 (p q : Nat) (l : List Fr) : Bool :=
  (List.range 17).all fun t => t == 0 || (ffits (l.getD t (0, 0)) && decide ((l.getD t (0, 0)).1 ≠ 0) && (List.range 17).all fun h => decide (t < h) || (decide ((fQuo (l.getD h (0, 0)) (l.getD t (0, 0))).1.natAbs < 9223372036854775807) && decide ((fQuo (l.getD h (0, 0)) (l.getD t (0, 0))).2.natAbs < 9223372036854775807) && decide (fQuo (l.getD h (0, 0)) (l.getD t (0, 0)) = (((wellN p q t h / Nat.gcd (wellN p q t h) (wellN p q t t) : Nat) : Int), ((wellN p q t t / Nat.gcd (wellN p q t h) (wellN p q t t) : Nat) : Int)))))
def rcheck : Bool := (List.range 9).all fun p => (List.range 9).all fun q => rcheck1 (p + 1) (q + 1) (rrow (p + 1 : Nat) (q + 1 : Nat) 16 (fNew 0 1) (fNew 1 1))
set_option maxHeartbeats 4000000 in
set_option maxRecDepth 20000 in
theorem rcheck_all : rcheck = true := by decide +kernel
theorem rrow_get (p q : Int) : ∀ (n i k : Nat), k ≤ n → (rrow p q n (rpair p q i).1 (rpair p q i).2).getD k (0, 0) = rfr p q (i + k)
  | 0, i, k, h => by cases Nat.le_zero.1 h; rfl
  | n + 1, i, 0, _ => rfl
  | n + 1, i, k + 1, h => by
    have := rrow_get p q n (i + 1) k (by omega)
    rw [show i + (k + 1) = i + 1 + k by omega, ← this]
    rfl
structure RFacts (p q t h : Nat) : Prop where
  small : (fQuo (rfr p q h) (rfr p q t)).1.natAbs < 9223372036854775807 ∧ (fQuo (rfr p q h) (rfr p q t)).2.natAbs < 9223372036854775807
  fits : ∀ k, 0 < k → k ≤ 16 → (rfr p q k).1.natAbs < 18446744073709551616 ∧ (rfr p q k).2.natAbs < 18446744073709551616 ∧ 0 < (rfr p q k).2 ∧ (rfr p q k).1 ≠ 0
  last : fQuo (rfr p q h) (rfr p q t) = (((wellN p q t h / Nat.gcd (wellN p q t h) (wellN p q t t) : Nat) : Int), ((wellN p q t t / Nat.gcd (wellN p q t h) (wellN p q t t) : Nat) : Int))
theorem rfacts {p q t h : Nat} (p1 : 1 ≤ p) (p9 : p ≤ 9) (q1 : 1 ≤ q) (q9 : q ≤ 9) (t1 : 1 ≤ t) (t9 : t ≤ 16) (ht : h ≤ t) : RFacts p q t h := by
  have H := rcheck_all
  unfold rcheck at H
  have H1 := List.all_eq_true.1 (List.all_eq_true.1 H (p - 1) (by simp; omega)) (q - 1) (by simp; omega)
  rw [show p - 1 + 1 = p by omega, show q - 1 + 1 = q by omega] at H1
  have G : ∀ k, k ≤ 16 → (rrow p q 16 (fNew 0 1) (fNew 1 1)).getD k (0, 0) = rfr p q k := fun k hk => by
    have := rrow_get p q 16 0 k hk
    rw [Nat.zero_add] at this
    exact this
  unfold rcheck1 at H1
  have H2 : ∀ k, 0 < k → k ≤ 16 → ffits (rfr p q k) = true ∧ (rfr p q k).1 ≠ 0 ∧ ∀ j, j ≤ k → ((fQuo (rfr p q j) (rfr p q k)).1.natAbs < 9223372036854775807 ∧ (fQuo (rfr p q j) (rfr p q k)).2.natAbs < 9223372036854775807) ∧ fQuo (rfr p q j) (rfr p q k) = (((wellN p q k j / Nat.gcd (wellN p q k j) (wellN p q k k) : Nat) : Int), ((wellN p q k k / Nat.gcd (wellN p q k j) (wellN p q k k) : Nat) : Int)) := by
    intro k hk0 hk
    have h3 := List.all_eq_true.1 H1 k (by simp; omega)
    rw [G k hk] at h3
    simp only [Bool.or_eq_true, Bool.and_eq_true, decide_eq_true_eq, beq_iff_eq, List.all_eq_true, List.mem_range] at h3
    rcases h3 with h3 | ⟨⟨h4, h5⟩, h6⟩
    · omega
    · refine ⟨h4, h5, fun j hj => ?_⟩
      rcases h6 j (by omega) with h7 | h7
      · omega
      · rw [G j (by omega)] at h7
        exact h7
  refine ⟨((H2 t (by omega) t9).2.2 h ht).1, fun k hk0 hk => ?_, ((H2 t (by omega) t9).2.2 h ht).2⟩
  obtain ⟨h3, h4, _⟩ := H2 k hk0 hk
  unfold ffits at h3
  simp only [Bool.and_eq_true, decide_eq_true_eq] at h3
  exact ⟨h3.1.1.1, h3.1.1.2, h3.1.2, h4⟩
end Go.Proofs.Ytaehehoeidnidaa
