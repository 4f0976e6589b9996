/- Worlds that grow; an append onto a slice of the call's own that leaves all else as it was. Nothing of the program's own functions. No condition. -/
import Derived.Test.YtkffakekakhgdaaBigS
import Derived.Test.YtkffakekakhgdaaBase2
namespace Go.Proofs.Ytkffakekakhgdaa
open Go.ChangeShapes Go.WideShapes Go.ChangeAt Go.RowKit
set_option linter.unusedVariables false

theorem rb_go {w u v : World} (h : Below w.heap.size w u) (hb : Below u.heap.size u v) : Below w.heap.size w v := h.trans (hb.mono h.size)
theorem rb_alloc {w u : World} (h : Below w.heap.size w u) (o : Obj) : Below w.heap.size w (u.alloc o) := h.alloc h.size o
theorem rb_drew {w u : World} (h : Below w.heap.size w u) : Below w.heap.size w u.drew := below_drewN h 1
theorem rb_put {w u v : World} {g : Nat} (h : Below w.heap.size w u) (hb : u.grownBy v (some g)) (hg : w.heap.size ≤ g) : Below w.heap.size w v := Below.grown h hb h.size (fun q hq => by injection hq with hq; omega)

theorem Blk.push {w w' : World} {g base : Nat} {t e : TypeId} {cs : Array Value} {v : Value} {xs : List Value} (h : Blk w g t cs) (ho : Own w base e v xs) (hg : g < base) (hb : w.grownBy w' v.ownBlock) : Blk w' g t cs :=
  h.row hb (fun k hk => by have := ho.block k hk; omega)
section
variable {P : Program} (w : World)
/-- wpList_push, with what is left as it was. -/
theorem wpList_pushG {ops : Array Oper} {rest : List Oper} {o : Oper} {a : Act} {Q : Exit → Act → World → Prop} (hgd : o.guard = none) (s x : Operand) (t e : TypeId) (b : Nat)
    (E1 : Elem1 P t e b) (ho : o.op = .call { callee := .builtin .append, args := #[s, x], argTypes := #[t, t] })
    (base : Nat) (v : Value) (xs : List Value) (hs : a.eval s = v) (hown : Own w base e v xs) (u : Value) (ad : Addr) (c : Nat) (hx : a.eval x = .slice (some ad) 1 c)
    (hc : w.cell? ad = some u) (hu : u.oneCell' = true) (hb : (xs.length + 1) * b ≤ 140737488355328) (hm : xs.length + 1 ≤ maxLen) (hbase : base ≤ w.heap.size)
    (h : ∀ v' w', Own w' base e v' (xs ++ [u]) → w.grownBy w' v.ownBlock → wpList P ops Q rest (a.put o.dst v') w') : wpList P ops Q (o :: rest) a w := by
  obtain ⟨ht, i, z, hi, hz, hsz, hby, hzs⟩ := E1
  refine wpList_append_own w hgd s x t ho base e i z 1 b ht hi hz hsz hby hzs (by decide) v xs.length xs hs hown ad 1 c [u] hx rfl (fun j y hy => ?_) (by simpa using hu) hm hb hbase ?_
  · have hj : j = 0 := by
      have := (List.getElem?_eq_some_iff.1 hy).1
      simp at this
      exact this
    subst hj
    simp at hy
    subst hy
    exact hc
  · intro v' w' h1 h2 _
    exact h v' w' (Own.to h1) h2
end
abbrev ptrV (g : Nat) : Value := .pointer (some ⟨g, 0, none⟩)
section
variable {w w' : World} {g o base : Nat} {z : Int} {e : TypeId} {v : Value} {xs : List Value}
theorem grown_none {w w' : World} (h : w.grownBy w' none) : Below w.heap.size w w' := (Below.refl _ _).grown h (Nat.le_refl _) (fun q hq => by cases hq)
theorem IntZ.push (h : IntZ w g 0 z) (hg : IntBlk w g) (ho : Own w base e v xs) (he : e ≠ tU) (hr : e ≠ tI) (hb : w.grownBy w' v.ownBlock) : IntZ w' g 0 z ∧ IntBlk w' g := by
  rcases ho.2 with ⟨rfl, _⟩ | ⟨k, cap, cur, rfl, _, hh, _⟩
  · exact ⟨h.below (grown_none hb), hg.below (grown_none hb)⟩
  · have hk : Blk w k e cur := hh
    have hne : g ≠ k := fun e1 => by
      subst e1
      obtain ⟨x, y, hg⟩ := hg
      have e2 : some (Obj.cells cur e (0, 0)) = some (Obj.cells #[x, y] tI (0, 0)) := hk.symm.trans hg
      injection e2 with e2
      injection e2 with _ e3 _
      exact hr e3
    obtain ⟨b, ds, h1, hz⟩ := h
    exact ⟨⟨b, ds, h1.grown (g' := k) hb hne hk he, hz⟩, hg.grown (g' := k) hb hne⟩
/-- A row grows where a number is written: the row stays. -/
theorem Own.put (h : Own w base e v xs) (hb : w.grownBy w' (some g)) (hg : IntBlk w g) (hr : e ≠ tI) : Own w' base e v xs := by
  refine h.keepRow hb fun q hq e1 => ?_
  subst e1
  rcases h.2 with ⟨rfl, _⟩ | ⟨k, cap, cur, rfl, _, hh, _⟩
  · simp [Value.ownBlock] at hq
  · have e4 : k = q := by simpa [Value.ownBlock] using hq
    subst e4
    obtain ⟨x, y, hg⟩ := hg
    have hk : Blk w k e cur := hh
    have e2 : some (Obj.cells cur e (0, 0)) = some (Obj.cells #[x, y] tI (0, 0)) := hk.symm.trans hg
    injection e2 with e2
    injection e2 with _ e3 _
    exact hr e3
end
end Go.Proofs.Ytkffakekakhgdaa
