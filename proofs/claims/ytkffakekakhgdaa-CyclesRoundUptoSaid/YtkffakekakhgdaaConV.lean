/- Rows of values, and one slice of all of them. Nothing of the program's own functions. Printed by congen.py. No condition. -/
import Derived.Test.YtkffakekakhgdaaApp2
import Derived.Lib.AppendZeros
import Derived.Lib.AppendZerosOnto
namespace Go.Proofs.Ytkffakekakhgdaa
open Go.ChangeShapes Go.WideShapes Go.ChangeAt Go.RowKit
set_option linter.unusedVariables false

/-- A row of values: its address, its values, its capacity. -/
abbrev Vw : Type := Option Addr × List Value × Nat
abbrev vwV (x : Vw) : Value := .slice x.1 x.2.1.length x.2.2
/-- Rows of values of one cell each. -/
def VwsOk (w : World) (B : Nat) (A : Option Addr) (l : List Vw) : Prop := Seg w B A (l.map vwV) ∧ ∀ x ∈ l, Seg w B x.1 x.2.1 ∧ ∀ u ∈ x.2.1, u.oneCell' = true
def vlen (l : List Vw) : Nat → Nat
  | 0 => 0
  | k + 1 => vlen l k + (l.getD k (none, [], 0)).2.1.length
def vall (l : List Vw) : Nat → List Value
  | 0 => []
  | k + 1 => vall l k ++ (l.getD k (none, [], 0)).2.1
theorem vall_len (l : List Vw) : ∀ k, (vall l k).length = vlen l k
  | 0 => rfl
  | k + 1 => by rw [vall, vlen, List.length_append, vall_len l k]
theorem vlen_mono (l : List Vw) : ∀ {i j : Nat}, i ≤ j → vlen l i ≤ vlen l j
  | i, 0, h => by have : i = 0 := by omega
                  subst this; exact Nat.le_refl _
  | i, j + 1, h => by
    by_cases e : i = j + 1
    · subst e; exact Nat.le_refl _
    · have := vlen_mono l (i := i) (j := j) (by omega)
      rw [vlen]; omega
theorem VwsOk.below {w w' : World} {B : Nat} {A : Option Addr} {l : List Vw} (h : VwsOk w B A l) (hb : Below B w w') : VwsOk w' B A l := ⟨h.1.below hb, fun x hx => ⟨(h.2 x hx).1.below hb, (h.2 x hx).2⟩⟩
theorem VwsOk.row {w : World} {B : Nat} {A : Option Addr} {l : List Vw} (h : VwsOk w B A l) {k : Nat} (hk : k < l.length) : ∃ ad, A = some ad ∧ ad.block < B ∧ w.cell? (ad.add k) = some (vwV (l.getD k (none, [], 0))) ∧ Seg w B (l.getD k (none, [], 0)).1 (l.getD k (none, [], 0)).2.1 ∧ ∀ u ∈ (l.getD k (none, [], 0)).2.1, u.oneCell' = true := by
  have e : l.getD k (none, [], 0) = l[k] := by simp [List.getD, hk]
  rw [e]
  obtain ⟨ad, h1, h2, h3⟩ := h.1.get (k := k) (u := vwV l[k]) (by simp [hk])
  exact ⟨ad, h1, h2, h3, h.2 _ (List.getElem_mem hk)⟩
/-- What an append of zero values onto no slice makes. -/
theorem own_zeros (w : World) (e : TypeId) (z : Array Value) (n G : Nat) (hz : z.size = 1) (hn : n ≤ G) (hm : G ≤ maxLen) : Own (w.alloc (.cells (([] : List Value).toArray ++ Builtin.zeroCells z n ++ Builtin.zeroCells z (G - n)) e)) w.heap.size e (.slice (some ⟨w.heap.size, 0, none⟩) 0 G) [] :=
  ⟨rfl, .inr ⟨w.heap.size, G, _, rfl, Nat.le_refl _, Blk.new w e _, Nat.zero_le _, hm, by simp [size_zeroCells, hz]; omega, by simp⟩⟩
end Go.Proofs.Ytkffakekakhgdaa
