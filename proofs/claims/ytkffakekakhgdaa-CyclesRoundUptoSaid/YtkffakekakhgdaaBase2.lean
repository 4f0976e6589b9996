/- More facts on slices that the call makes; nothing of the program's own functions. No condition. -/
import Derived.Test.YtkffakekakhgdaaBase
namespace Go.Proofs.Ytkffakekakhgdaa
open Go.ChangeShapes Go.WideShapes Go.ChangeAt Go.RowKit

section
variable {w w' : World} {base : Nat} {e : TypeId} {A : Option Addr} {g n c : Nat} {v : Value} {xs : List Value}
theorem Own.len (h : Own w base e (.slice A n c) xs) : n = xs.length := by
  rcases h.2 with ⟨e, h1⟩ | ⟨g, cap, cur, e, hg, _⟩
  · injection e with e1 e2 e3; omega
  · injection e with e1 e2 e3
theorem Own.at_ (h : Own w base e (.slice A n c) xs) (h0 : 0 < n) : ∃ g, A = some ⟨g, 0, none⟩ ∧ base ≤ g := by
  have := h.len
  rcases h.2 with ⟨e, h1⟩ | ⟨g, cap, cur, e, hg, _⟩
  · omega
  · injection e with e1 e2 e3
    exact ⟨g, e1, hg⟩
theorem Own.row (h : Own w base e (.slice A n c) xs) : w.ownsRow base e 1 (.slice A n c) n xs := by
  obtain rfl := h.len
  exact h
theorem Own.cell (h : Own w base e (.slice (some ⟨g, 0, none⟩) n c) xs) {j : Nat} {u : Value} (hj : xs[j]? = some u) : w.cell? ⟨g, j, none⟩ = some u := by
  have hl := h.len
  have hlt : j < xs.length := (List.getElem?_eq_some_iff.1 hj).1
  rw [World.ownsRow.cellAt h.row j (by omega), hj]
theorem Own.frozen (h : Own w base e (.slice (some ⟨g, 0, none⟩) n c) xs) (j : Nat) : w.frozen? ⟨g, j, none⟩ = false := World.ownsRow.frozenAt h.row j
theorem Own.set (h : Own w base e (.slice (some ⟨g, 0, none⟩) n c) xs) (j : Nat) (u : Value) : Own (w.setCell ⟨g, j, none⟩ u) base e (.slice (some ⟨g, 0, none⟩) n c) (xs.set j u) := Own.to (World.ownsRow.stored h.row j u).1
theorem Own.base_le (h : Own w base e (.slice (some ⟨g, 0, none⟩) n c) xs) : base ≤ g := h.block g rfl
theorem Own.res2 (h : Own w base e v xs) : ∃ A c, v = .slice A xs.length c ∧ xs.length ≤ c ∧ Own w base e (.slice A xs.length c) xs := by
  obtain ⟨A, c, hv, hc, _⟩ := h.res
  subst hv
  exact ⟨A, c, rfl, hc, h⟩
theorem Own.seg (h : Own w base e (.slice A n c) xs) : Seg w w.heap.size A xs := by
  obtain ⟨A', c', e, _, s⟩ := h.res
  injection e with e1 e2 e3
  subst e1
  exact s
end

/-- The slice at A holds the cells xs, in one block of elements of type e. -/
def TSeg (w : World) (e : TypeId) (A : Option Addr) (xs : List Value) : Prop :=
  Seg w w.heap.size A xs ∧ (0 < xs.length → ∃ ad cs, A = some ad ∧ w.heap[ad.block]? = some (.cells cs e (0, 0)))
section
variable {w w' : World} {e t g : Nat} {A : Option Addr} {xs : List Value} {cs : Array Value}
theorem TSeg.nil : TSeg w e A [] := ⟨Seg.nil, fun h => absurd h (by simp)⟩
theorem TSeg.below (h : TSeg w e A xs) (hb : Below w.heap.size w w') : TSeg w' e A xs := by
  refine ⟨(h.1.below hb).more hb.size, fun h0 => ?_⟩
  obtain ⟨ad, cs, ha, hc⟩ := h.2 h0
  refine ⟨ad, cs, ha, ?_⟩
  rw [hb.block _ ?_]
  · exact hc
  · rcases Nat.lt_or_ge ad.block w.heap.size with hlt | hge
    · exact hlt
    · rw [Array.getElem?_eq_none hge] at hc; cases hc
theorem TSeg.alloc (h : TSeg w e A xs) (o : Obj) : TSeg (w.alloc o) e A xs := h.below ((Below.refl _ _).alloc (Nat.le_refl _) _)
theorem TSeg.far (h : TSeg w e A xs) (hg : Blk w g t cs) (hne : t ≠ e) (i : Nat) (u : Value) : TSeg (w.setCell ⟨g, i, none⟩ u) e A xs := by
  by_cases h0 : 0 < xs.length
  · obtain ⟨ad, c, ha, hc⟩ := h.2 h0
    have hbl : ad.block ≠ g := by
      intro e1
      rw [e1] at hc
      unfold Blk at hg
      rw [hg] at hc
      injection hc with hc
      injection hc with _ h2 _
      exact hne h2
    have hbk : (w.setCell ⟨g, i, none⟩ u).heap[ad.block]? = w.heap[ad.block]? := Below.heap_setCell w _ _ _ hbl
    refine ⟨fun h1 => ?_, fun _ => ⟨ad, c, ha, hbk.trans hc⟩⟩
    obtain ⟨ad', ha', hlt, hcs⟩ := h.1 h1
    obtain rfl : ad = ad' := by rw [ha] at ha'; injection ha'
    refine ⟨ad, ha, by simpa using hlt, fun k v hk => ?_⟩
    exact (World.cell?_of_block (w := w) (a := ad.add k) (by rw [addr_block]; exact hbk)).trans (hcs k v hk)
  · have : xs = [] := List.eq_nil_of_length_eq_zero (by omega)
    subst this
    exact TSeg.nil
theorem Own.tseg {base n c : Nat} (h : Own w base e (.slice A n c) xs) : TSeg w e A xs := by
  refine ⟨h.seg, fun h0 => ?_⟩
  rcases h.2 with ⟨e, h1⟩ | ⟨g, cap, cur, e1, hg, hh, _⟩
  · omega
  · injection e1 with e1 e2 e3
    exact ⟨_, cur, e1, hh⟩
end
end Go.Proofs.Ytkffakekakhgdaa
