/- More facts on slices that the call makes; nothing of the program's own functions. No condition. -/
import Derived.Test.YtakjcodfcoaadabBase
namespace Go.Proofs.Ytakjcodfcoaadab
open Go.ChangeShapes Go.WideShapes Go.ChangeAt Go.RowKit

section
variable {w w' : World} {base : Nat} {e : TypeId} {A : Option Addr} {g n c : Nat} {v : Value} {xs : List Value}
theorem Own.len (h : Own w base e (.slice A n c) xs) : n = xs.length := by
  rcases h.2 with ⟨e, h1⟩ | ⟨g, cap, cur, e, hg, _⟩
  · injection e with e1 e2 e3; omega
  · injection e with e1 e2 e3
theorem Own.at_ (h : Own w base e (.slice A n c) xs) (h0 : 0 < n) : ∃ g, A = some ⟨g, 0, none⟩ ∧ base ≤ g := by
  have := h.len
  rcases h.2 with ⟨e, h1⟩ | ⟨g, cap, cur, e, hg, _⟩
  · omega
  · injection e with e1 e2 e3
    exact ⟨g, e1, hg⟩
theorem Own.row (h : Own w base e (.slice A n c) xs) : w.ownsRow base e 1 (.slice A n c) n xs := by
  obtain rfl := h.len
  exact h
theorem Own.cell (h : Own w base e (.slice (some ⟨g, 0, none⟩) n c) xs) {j : Nat} {u : Value} (hj : xs[j]? = some u) : w.cell? ⟨g, j, none⟩ = some u := by
  have hl := h.len
  have hlt : j < xs.length := (List.getElem?_eq_some_iff.1 hj).1
  rw [World.ownsRow.cellAt h.row j (by omega), hj]
theorem Own.frozen (h : Own w base e (.slice (some ⟨g, 0, none⟩) n c) xs) (j : Nat) : w.frozen? ⟨g, j, none⟩ = false := World.ownsRow.frozenAt h.row j
theorem Own.set (h : Own w base e (.slice (some ⟨g, 0, none⟩) n c) xs) (j : Nat) (u : Value) : Own (w.setCell ⟨g, j, none⟩ u) base e (.slice (some ⟨g, 0, none⟩) n c) (xs.set j u) := Own.to (World.ownsRow.stored h.row j u).1
theorem Own.base_le (h : Own w base e (.slice (some ⟨g, 0, none⟩) n c) xs) : base ≤ g := h.block g rfl
theorem Own.res2 (h : Own w base e v xs) : ∃ A c, v = .slice A xs.length c ∧ xs.length ≤ c ∧ Own w base e (.slice A xs.length c) xs := by
  obtain ⟨A, c, hv, hc, _⟩ := h.res
  subst hv
  exact ⟨A, c, rfl, hc, h⟩
theorem Own.seg (h : Own w base e (.slice A n c) xs) : Seg w w.heap.size A xs := by
  obtain ⟨A', c', e, _, s⟩ := h.res
  injection e with e1 e2 e3
  subst e1
  exact s
end
end Go.Proofs.Ytakjcodfcoaadab
