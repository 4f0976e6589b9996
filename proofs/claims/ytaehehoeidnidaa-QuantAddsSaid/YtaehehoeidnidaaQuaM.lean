/- Package quant, told plainly. Nothing of the program. No condition. -/
import Derived.Test.YtaehehoeidnidaaQuaT
namespace Go.Proofs.Ytaehehoeidnidaa
open Go.ChangeShapes Go.WideShapes Go.ChangeAt Go.RowKit
set_option linter.unusedVariables false

/-- How many have come. -/
def qsum : List Rk → Int
  | [] => 0
  | p :: ps => p.2.1 + qsum ps
theorem qsum_app (a b : List Rk) : qsum (a ++ b) = qsum a + qsum b := by
  induction a with
  | nil => simp [qsum]
  | cons p ps ih => simp only [List.cons_append, qsum, ih]; omega
theorem kat_get {ps : List Rk} {k : Nat} (h : k < ps.length) : kat ps k = ps[k] := by unfold kat; simp [List.getD, h]
theorem qsum_take {ps : List Rk} {k : Nat} (h : k < ps.length) : qsum (ps.take (k + 1)) = qsum (ps.take k) + (kat ps k).2.1 := by
  rw [List.take_succ_eq_append_getElem h, qsum_app, kat_get h]
  simp [qsum]
/-- Element k is right by itself. -/
def Q1 (ps : List Rk) (k : Nat) : Prop := 1 ≤ (kat ps k).2.1 ∧ (kat ps k).2.1 ≤ 1099511627776 ∧ 0 ≤ (kat ps k).2.2 ∧ (kat ps k).2.2 ≤ 1099511627776 ∧ (0 < k → (kat ps (k - 1)).1 ≤ (kat ps k).1)
/-- A summary that may be. -/
structure QOk (parts : Int) (ps : List Rk) : Prop where
  lo : 1 ≤ parts
  hi : parts ≤ 100
  len : ps.length ≤ 400
  one : ∀ k, k < ps.length → Q1 ps k
  all : qsum ps ≤ 1099511627776
  fit : ∀ k, k < ps.length → (kat ps k).2.1 + (kat ps k).2.2 ≤ max (2 * qsum ps / parts) 1
theorem qsum_bound {ps : List Rk} (h : ∀ k, k < ps.length → Q1 ps k) : ∀ k, k ≤ ps.length → (k : Int) ≤ qsum (ps.take k) ∧ qsum (ps.take k) ≤ 1099511627776 * k
  | 0, _ => by simp [qsum]
  | k + 1, hk => by
    obtain ⟨h1, h2⟩ := qsum_bound h k (by omega)
    obtain ⟨h3, h4, _⟩ := h k (by omega)
    rw [qsum_take (by omega)]
    omega
theorem qsum_mono {ps : List Rk} (h : ∀ k, k < ps.length → Q1 ps k) {k : Nat} (hk : k ≤ ps.length) : qsum (ps.take k) ≤ qsum ps := by
  have e : ps = ps.take k ++ ps.drop k := (List.take_append_drop k ps).symm
  have h2 : qsum ps = qsum (ps.take k) + qsum (ps.drop k) := by conv => lhs; rw [e]; rw [qsum_app]
  have h3 : ∀ l : List Rk, (∀ x ∈ l, 0 ≤ x.2.1) → 0 ≤ qsum l := by
    intro l
    induction l with
    | nil => intro _; simp [qsum]
    | cons p ps ih =>
      intro h
      have h1 := h p (List.mem_cons_self ..)
      have h2 := ih fun x hx => h x (List.mem_cons_of_mem _ hx)
      simp only [qsum]; omega
  have := h3 (ps.drop k) fun x hx => by
    obtain ⟨i, hi, rfl⟩ := List.mem_iff_getElem.1 (List.mem_of_mem_drop hx)
    have := (h i hi).1
    rw [kat_get hi] at this; omega
  omega
/-- The two tests of how much one stands for are one. -/
theorem qfit {n parts all : Int} (hp : 1 ≤ parts) (h0 : 0 ≤ all) : n ≤ max (2 * all / parts) 1 ↔ ¬ (1 < n ∧ 2 * all < n * parts) := by
  have h := Int.le_ediv_iff_mul_le (a := n) (b := 2 * all) (show 0 < parts by omega)
  omega
/-- Neighbours made one, from the back on. -/
def qsq (most : Int) : List Rk → List Rk
  | [] => []
  | r :: ts => match qsq most ts with
    | [] => [r]
    | b :: bs => if r.2.1 + b.2.1 + b.2.2 ≤ most then (b.1, b.2.1 + r.2.1, b.2.2) :: bs else r :: b :: bs
/-- Numbers that do not fall. -/
theorem q_pair {ps : List Rk} (h : ∀ k, k < ps.length → Q1 ps k) : ps.Pairwise (fun a b => a.1 ≤ b.1) := by
  have hm : ∀ d i, i + d < ps.length → (kat ps i).1 ≤ (kat ps (i + d)).1 := by
    intro d
    induction d with
    | zero => intro i _; exact Int.le_refl _
    | succ d ih =>
      intro i hi
      have h1 := ih i (by omega)
      have h2 := (h (i + (d + 1)) hi).2.2.2.2 (by omega)
      rw [show i + (d + 1) - 1 = i + d by omega] at h2
      omega
  rw [List.pairwise_iff_getElem]
  intro i j hi hj hij
  have := hm (j - i) i (by omega)
  rw [show i + (j - i) = j by omega, kat_get hi, kat_get hj] at this
  exact this
theorem q_split {x : Int} : ∀ {ps : List Rk}, ps.Pairwise (fun a b => a.1 ≤ b.1) → ps.filter (fun r => decide (r.1 ≤ x)) = ps.takeWhile (fun r => decide (r.1 ≤ x)) ∧ ps.filter (fun r => decide (x < r.1)) = ps.dropWhile (fun r => decide (r.1 ≤ x))
  | [], _ => ⟨rfl, rfl⟩
  | r :: ps, h => by
    rw [List.pairwise_cons] at h
    obtain ⟨h1, h2⟩ := h
    obtain ⟨e1, e2⟩ := q_split h2
    by_cases c : r.1 ≤ x
    · have c' : ¬ x < r.1 := by omega
      simp only [List.filter_cons, List.takeWhile_cons, List.dropWhile_cons, c, c', decide_true, decide_false, if_true, Bool.false_eq_true, if_false]
      exact ⟨by rw [e1], e2⟩
    · have c' : x < r.1 := by omega
      simp only [List.filter_cons, List.takeWhile_cons, List.dropWhile_cons, c, c', decide_true, decide_false, if_true, Bool.false_eq_true, if_false]
      refine ⟨List.filter_eq_nil_iff.2 fun a ha => ?_, ?_⟩
      · have := h1 a ha; simp; omega
      · rw [List.filter_eq_self.2 fun a ha => ?_]
        have := h1 a ha; simp; omega
/-- With one more. -/
def qlow (ps : List Rk) (x : Int) : List Rk := ps.takeWhile (fun r => decide (r.1 ≤ x))
def qhigh (ps : List Rk) (x : Int) : List Rk := ps.dropWhile (fun r => decide (r.1 ≤ x))
def qown (ps : List Rk) (x : Int) : Rk := (x, 1, if qlow ps x ≠ [] ∧ qhigh ps x ≠ [] then (kat (qhigh ps x) 0).2.1 + (kat (qhigh ps x) 0).2.2 - 1 else 0)
def qall (ps : List Rk) (x : Int) : List Rk := qlow ps x ++ qown ps x :: qhigh ps x
def qnew (parts : Int) (ps : List Rk) (x : Int) : List Rk :=
  match qall ps x with
  | [] => []
  | r :: ts => r :: qsq (2 * qsum (qall ps x) / parts) ts
theorem q_parts (ps : List Rk) (x : Int) : qlow ps x ++ qhigh ps x = ps := List.takeWhile_append_dropWhile
end Go.Proofs.Ytaehehoeidnidaa
