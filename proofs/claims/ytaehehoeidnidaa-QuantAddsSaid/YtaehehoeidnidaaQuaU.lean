/- Package quant: the place that is found, told plainly. Nothing of the program. No condition. -/
import Derived.Test.YtaehehoeidnidaaQuaR
namespace Go.Proofs.Ytaehehoeidnidaa
open Go.ChangeShapes Go.WideShapes Go.ChangeAt Go.RowKit
set_option linter.unusedVariables false

/-- How far element k is from a place. -/
def qdist (ps : List Rk) (place : Int) (k : Nat) : Int := max (place - qsum (ps.take (k + 1))) (qsum (ps.take (k + 1)) + (kat ps k).2.2 - place)
/-- The first of the nearest ones among the first k. -/
def qbest (ps : List Rk) (place : Int) : Nat → Nat
  | 0 => 0
  | k + 1 => if qdist ps place k < qdist ps place (qbest ps place k) then k else qbest ps place k
theorem qbest_lt (ps : List Rk) (place : Int) : ∀ k, 0 < k → qbest ps place k < k
  | 0, h => absurd h (by omega)
  | k + 1, _ => by
    unfold qbest
    split
    · omega
    · rcases Nat.eq_zero_or_pos k with rfl | hk
      · simp [qbest]
      · have := qbest_lt ps place k hk; omega
theorem qdist_nn {parts : Int} {ps : List Rk} (h : QOk parts ps) (place : Int) {k : Nat} (hk : k < ps.length) : 0 ≤ qdist ps place k := by
  have := h.one k hk
  unfold Q1 at this
  unfold qdist
  omega
noncomputable def qfindR (parts : Int) (ps : List Rk) (place : Int) : Int × Int :=
  if qokB parts ps = false then (0, 1) else if place < 1 ∨ qsum ps < place then (0, 3) else ((kat ps (qbest ps place ps.length)).1, 0)
theorem QOk.pre {parts : Int} {ps : List Rk} (h : QOk parts ps) {k : Nat} (hk : k ≤ ps.length) : (k : Int) ≤ qsum (ps.take k) ∧ qsum (ps.take k) ≤ 1099511627776 :=
  ⟨(qsum_bound h.one k hk).1, Int.le_trans (qsum_mono h.one hk) h.all⟩
def FOut (r : Int × Int) (w : World) (e : Ending) (w' : World) : Prop := e = .returned (.tuple #[.int .i64 r.1, .int .i64 r.2]) ∧ Below w.heap.size w w'
end Go.Proofs.Ytaehehoeidnidaa
