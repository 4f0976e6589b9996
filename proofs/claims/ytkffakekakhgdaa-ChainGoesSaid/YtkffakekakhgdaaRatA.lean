/- Fractions in memory: made of two whole numbers, walked. No condition but the size. -/
import Derived.Test.YtkffakekakhgdaaGcdB
namespace Go.Proofs.Ytkffakekakhgdaa
open Go.ChangeShapes Go.WideShapes Go.ChangeAt Go.RowKit
set_option linter.unusedVariables false

abbrev tR : TypeId := 76
theorem tR_ne : tR ≠ tU := by decide
/-- Block g is that of one fraction: it may be written. -/
def RatBlk (w : World) (g : Nat) : Prop := ∃ p q r s, Blk w g tR #[p, q, r, s]
/-- Block g has become the fraction n through d; nothing else that was there has changed. -/
def PutR (w w' : World) (g : Nat) (n d : Int) : Prop := IntZ w' g 0 n ∧ IntZ w' g 2 d ∧ RatBlk w' g ∧ w.grownBy w' (some g)
theorem RatBlk.below {w w' : World} {g : Nat} (h : RatBlk w g) (hb : Below w.heap.size w w') : RatBlk w' g := by
  obtain ⟨p, q, r, s, h⟩ := h; exact ⟨p, q, r, s, h.below hb h.lt⟩
theorem RatBlk.alloc {w : World} {g : Nat} (h : RatBlk w g) (o : Obj) : RatBlk (w.alloc o) g := h.below ((Below.refl _ _).alloc (Nat.le_refl _) _)
theorem RatBlk.grown {w w' : World} {g k : Nat} (h : RatBlk w g) (hb : w.grownBy w' (some k)) (hg : g ≠ k) : RatBlk w' g := by
  obtain ⟨p, q, r, s, h⟩ := h; exact ⟨p, q, r, s, h.grown hb hg⟩
theorem RatBlk.lt {w : World} {g : Nat} (h : RatBlk w g) : g < w.heap.size := by
  obtain ⟨p, q, r, s, h⟩ := h; exact h.lt
/-- Two numbers written into a fraction's block. -/
theorem putR_of {w w1 w2 : World} {g : Nat} {p q r s : Value} {b b' : Bool} {ds es : List Nat} {n d : Int} (h0 : Blk w g tR #[p, q, r, s]) (h1 : SetOut w w1 g 0 tR #[p, q, r, s] b ds) (hn : IsZ b ds n)
    (h2 : ∀ cs, Blk w1 g tR cs → cs.size = 4 → ∃ cs', cs' = cs ∧ SetOut w1 w2 g 2 tR cs' b' es) (hd : IsZ b' es d) : PutR w w2 g n d := by
  obtain ⟨A, c, k1, k2, k3, k4, k5⟩ := h1
  obtain ⟨_, rfl, h2⟩ := h2 _ k1 (by simp [setNum])
  obtain ⟨B, e, j1, j2, j3, j4, j5⟩ := h2
  have kd : Digs w2 A ds := k4.grown j5 k1 tR_ne
  exact ⟨⟨b, ds, ⟨tR, _, A, c, j1, tR_ne, rfl, rfl, k2, k3, kd⟩, hn⟩, ⟨b', es, ⟨tR, _, B, e, j1, tR_ne, rfl, rfl, j2, j3, j4⟩, hd⟩, ⟨_, _, _, _, j1⟩, k5.trans j5⟩
end Go.Proofs.Ytkffakekakhgdaa
