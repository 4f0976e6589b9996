/- Slices of structs of three numbers: their cells, read; one that comes in. Nothing of the program's own functions. No condition. -/
import Derived.Test.YtaehehoeidnidaaBase2
import Derived.Deep.Slices
namespace Go.Proofs.Ytaehehoeidnidaa
open Go.ChangeShapes Go.WideShapes Go.ChangeAt Go.RowKit
set_option linter.unusedVariables false

/-- One: its number, its gap, its more. -/
abbrev Rk : Type := Int × Int × Int
def flat3 : List Rk → List Value
  | [] => []
  | p :: ps => .int .i64 p.1 :: .int .i64 p.2.1 :: .int .i64 p.2.2 :: flat3 ps
theorem flat3_len (ps : List Rk) : (flat3 ps).length = ps.length * 3 := by
  induction ps with
  | nil => rfl
  | cons p ps ih => simp only [flat3, List.length_cons, ih]; omega
theorem flat3_app (a b : List Rk) : flat3 (a ++ b) = flat3 a ++ flat3 b := by
  induction a with
  | nil => rfl
  | cons p ps ih => simp only [List.cons_append, flat3, ih]
def kat (ps : List Rk) (i : Nat) : Rk := ps.getD i (0, 0, 0)
theorem flat3_at (ps : List Rk) : ∀ i, i < ps.length → (flat3 ps)[i * 3]? = some (.int .i64 (kat ps i).1) ∧ (flat3 ps)[i * 3 + 1]? = some (.int .i64 (kat ps i).2.1) ∧ (flat3 ps)[i * 3 + 2]? = some (.int .i64 (kat ps i).2.2) := by
  induction ps with
  | nil => intro i h; simp at h
  | cons p ps ih =>
    intro i h
    cases i with
    | zero => exact ⟨rfl, rfl, rfl⟩
    | succ i =>
      have h2 := ih i (by simpa using h)
      rw [show (i + 1) * 3 = i * 3 + 1 + 1 + 1 by omega, show i * 3 + 1 + 1 + 1 + 1 = (i * 3 + 1) + 1 + 1 + 1 by omega, show i * 3 + 1 + 1 + 1 + 2 = (i * 3 + 2) + 1 + 1 + 1 by omega]
      exact h2
theorem add_one3 (ad : Addr) (k j : Nat) (hj : 0 < j) : (⟨(ad.add (k * 3)).block, (ad.add (k * 3)).off + j, none⟩ : Addr) = ad.add (k * 3 + j) := by
  unfold Addr.add
  rw [if_neg (show ¬ k * 3 + j = 0 by omega)]
  split
  · next h => rw [h]; simp
  · simp [Nat.add_assoc]
/-- Element k. -/
theorem Seg.trip {w : World} {B : Nat} {A : Option Addr} {ps : List Rk} (h : Seg w B A (flat3 ps)) {k : Nat} (hk : k < ps.length) :
    ∃ ad, A = some ad ∧ ad.block < B ∧ w.cell? (ad.add (k * 3)) = some (.int .i64 (kat ps k).1) ∧ w.cell? ⟨(ad.add (k * 3)).block, (ad.add (k * 3)).off + 1, none⟩ = some (.int .i64 (kat ps k).2.1) ∧ w.cell? ⟨(ad.add (k * 3)).block, (ad.add (k * 3)).off + 2, none⟩ = some (.int .i64 (kat ps k).2.2) := by
  obtain ⟨h1, h2, h3⟩ := flat3_at ps k hk
  obtain ⟨ad, rfl, hb, hc⟩ := h.get h1
  obtain ⟨ae, he, _, hd⟩ := h.get h2
  injection he with he
  subst he
  obtain ⟨af, hf, _, hg⟩ := h.get h3
  injection hf with hf
  subst hf
  exact ⟨ad, rfl, hb, hc, by rw [add_one3 ad k 1 (by omega)]; exact hd, by rw [add_one3 ad k 2 (by omega)]; exact hg⟩
end Go.Proofs.Ytaehehoeidnidaa
