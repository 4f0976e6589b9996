/- More on slices of numbers: plain facts, nothing of the program's own functions. No condition. -/
import Derived.Test.YtkffakekakhgdaaSeq
namespace Go.Proofs.Ytkffakekakhgdaa
open Go.ChangeShapes Go.WideShapes Go.ChangeAt Go.RowKit
set_option linter.unusedVariables false

/-- s[:x] of a slice of numbers. -/
theorem slice_to {A : Option Addr} {n x c : Nat} (z : Int) (hz : z = x) (hx : x ≤ c) (u : World) : (Instr.slice 36 (.slice A n c) none (some (.int .i64 z)) none).run Try.prog u = .ok (.slice A x c) u := by
  subst hz
  have hu : Try.prog.underlying 36 = some (.slice (Try.prog.elem 36)) := by kernel_rfl
  have he : Try.prog.elem 36 = 3 := by kernel_rfl
  rw [run_slice_h u 36 A n c hu .i64 x (by omega) (by omega), he, Try.sizeOf3]
  cases A <;> simp [sliced, Result.andThen, Addr.add]
/-- A call's answer: a slice of numbers that the call owns, and a number. -/
def OOut (w w' : World) (e : Ending) (l : List Int) (err : Int) : Prop :=
  ∃ v, e = .returned (.tuple #[v, .int .i64 err]) ∧ Own w' w.heap.size 3 v (l.map (.int .i64)) ∧ Below w.heap.size w w'
theorem OOut.sout {w w' : World} {e : Ending} {l : List Int} {err : Int} (h : OOut w w' e l err) : SOut w w' e l err := by
  obtain ⟨v, rfl, ho, hb⟩ := h
  obtain ⟨A, c, rfl, hc, hs⟩ := ho.res
  rw [List.length_map] at hc
  exact ⟨A, c, by rw [List.length_map], hc, hs, hb⟩
theorem Own.low {w : World} {base base' : Nat} {e : TypeId} {v : Value} {xs : List Value} (h : Own w base e v xs) (hb : base' ≤ base) : Own w base' e v xs := by
  obtain ⟨h1, h2⟩ := h
  refine ⟨h1, ?_⟩
  rcases h2 with h2 | ⟨g, cap, cur, hv, hg, r⟩
  · exact .inl h2
  · exact .inr ⟨g, cap, cur, hv, Nat.le_trans hb hg, r⟩
end Go.Proofs.Ytkffakekakhgdaa
