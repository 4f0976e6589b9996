/- Rows of pointers to numbers and to fractions, made by the call; worlds that grow. Nothing of the program's own functions. No condition. -/
import Derived.Test.YtkffakekakhgdaaRatG
import Derived.Test.YtkffakekakhgdaaPushG
namespace Go.Proofs.Ytkffakekakhgdaa
open Go.ChangeShapes Go.WideShapes Go.ChangeAt Go.RowKit
set_option linter.unusedVariables false

/-- Block g is the fraction n through d. -/
def RatZ (w : World) (g : Nat) (x : Int × Int) : Prop := IntZ w g 0 x.1 ∧ IntZ w g 2 x.2 ∧ RatBlk w g
section
variable {w w' : World} {g k : Nat} {x : Int × Int}
theorem RatZ.below (h : RatZ w g x) (hb : Below w.heap.size w w') : RatZ w' g x := ⟨h.1.below hb, h.2.1.below hb, h.2.2.below hb⟩
theorem RatZ.alloc (h : RatZ w g x) (o : Obj) : RatZ (w.alloc o) g x := ⟨h.1.alloc o, h.2.1.alloc o, h.2.2.alloc o⟩
theorem RatZ.drew (h : RatZ w g x) : RatZ w.drew g x := ⟨h.1.drew, h.2.1.drew, h.2.2⟩
theorem RatZ.grown (h : RatZ w g x) (hb : w.grownBy w' (some k)) (hne : g ≠ k) {t : TypeId} {cs : Array Value} (hg : Blk w k t cs) (ht : t ≠ tU) : RatZ w' g x := by
  obtain ⟨⟨b, ds, h1, z1⟩, ⟨c, es, h2, z2⟩, h3⟩ := h
  exact ⟨⟨b, ds, h1.grown hb hne hg ht, z1⟩, ⟨c, es, h2.grown hb hne hg ht, z2⟩, h3.grown hb hne⟩
theorem RatZ.grownR (h : RatZ w g x) (hb : w.grownBy w' (some k)) (hne : g ≠ k) (hg : RatBlk w k) : RatZ w' g x := by
  obtain ⟨p, q, r, s, hg⟩ := hg
  exact h.grown hb hne hg tR_ne
theorem RatZ.of (h : PutR w w' g x.1 x.2) : RatZ w' g x := ⟨h.1, h.2.1, h.2.2.1⟩
theorem RatZ.ofNew (h : NewR w w' g x.1 x.2) : RatZ w' g x := ⟨h.1, h.2.1, h.2.2.1⟩
theorem RatZ.lt (h : RatZ w g x) : g < w.heap.size := h.2.2.lt
/-- A row of pointers that grows turns no fraction. -/
theorem RatZ.push {base : Nat} {e : TypeId} {v : Value} {xs : List Value} (h : RatZ w g x) (ho : Own w base e v xs) (he : e ≠ tU) (hr : e ≠ tR) (hb : w.grownBy w' v.ownBlock) : RatZ w' g x := by
  rcases ho.2 with ⟨rfl, _⟩ | ⟨k, cap, cur, rfl, _, hh, _⟩
  · exact h.below ((Below.refl _ _).grown hb (Nat.le_refl _) (fun q hq => by cases hq))
  · have hk : Blk w k e cur := hh
    obtain ⟨p, q, r, s, hg⟩ := h.2.2
    refine h.grown (k := k) hb (fun e1 => ?_) hk he
    subst e1
    have e2 : some (Obj.cells cur e (0, 0)) = some (Obj.cells #[p, q, r, s] tR (0, 0)) := hk.symm.trans hg
    injection e2 with e2
    injection e2 with _ e3 _
    exact hr e3
end
abbrev tRP : TypeId := 74
theorem tRP_ne : tRP ≠ tU := by decide
theorem tRP_ne2 : tRP ≠ tR := by decide
theorem own_two (w : World) (e : TypeId) (u v : Value) : Own (w.alloc (.cells #[u, v] e)) w.heap.size e (.slice (some ⟨w.heap.size, 0, none⟩) 2 2) [u, v] :=
  ⟨rfl, .inr ⟨w.heap.size, 2, #[u, v], rfl, Nat.le_refl _, Blk.new w e _, Nat.le_refl _, by decide, rfl, rfl⟩⟩
/-- A row of pointers to fractions. -/
def RatRow (w : World) (base : Nat) (v : Value) (l : List (Int × Int)) : Prop :=
  ∃ gs : List Nat, gs.length = l.length ∧ Own w base tRP v (gs.map ptrV) ∧ ∀ i (h : i < l.length) (h' : i < gs.length), RatZ w gs[i] l[i] ∧ base ≤ gs[i]
theorem RatRow.below {w w' : World} {base : Nat} {v : Value} {l : List (Int × Int)} (h : RatRow w base v l) (hb : Below w.heap.size w w') : RatRow w' base v l := by
  obtain ⟨gs, h1, h2, h3⟩ := h
  exact ⟨gs, h1, Own.below h2 hb (Nat.le_refl _), fun i hi hi' => ⟨(h3 i hi hi').1.below hb, (h3 i hi hi').2⟩⟩
theorem RatRow.push {w w' : World} {base g : Nat} {v v' : Value} {l : List (Int × Int)} {gs : List Nat} {x : Int × Int} (h1 : gs.length = l.length) (h2 : Own w base tRP v (gs.map ptrV)) (h3 : ∀ i (h : i < l.length) (h' : i < gs.length), RatZ w gs[i] l[i] ∧ base ≤ gs[i])
    (hx : RatZ w g x) (hg : base ≤ g) (ho : Own w' base tRP v' (gs.map ptrV ++ [ptrV g])) (hb : w.grownBy w' v.ownBlock) : RatRow w' base v' (l ++ [x]) := by
  refine ⟨gs ++ [g], by simp [h1], by simpa using ho, fun i hi hi' => ?_⟩
  by_cases hl : i < l.length
  · have hl' : i < gs.length := by omega
    rw [List.getElem_append_left hl', List.getElem_append_left hl]
    exact ⟨(h3 i hl hl').1.push h2 tRP_ne tRP_ne2 hb, (h3 i hl hl').2⟩
  · have e : i = l.length := by simp at hi; omega
    subst e
    have e2 : (gs ++ [g])[l.length]'hi' = g := by rw [List.getElem_append_right (by omega)]; simp [h1]
    have e3 : (l ++ [x])[l.length]'hi = x := by rw [List.getElem_append_right (by omega)]; simp
    rw [e2, e3]
    exact ⟨hx.push h2 tRP_ne tRP_ne2 hb, hg⟩
/-! ### fractions in plain numbers -/
abbrev Fr : Type := Int × Int
def fMul (x y : Fr) : Fr := (frN (x.1 * y.1) (x.2 * y.2), frD (x.1 * y.1) (x.2 * y.2))
def fAdd (x y : Fr) : Fr := (frN (x.1 * y.2 + y.1 * x.2) (x.2 * y.2), frD (x.1 * y.2 + y.1 * x.2) (x.2 * y.2))
def fSub (x y : Fr) : Fr := (frN (x.1 * frD (-y.1) y.2 + frN (-y.1) y.2 * x.2) (x.2 * frD (-y.1) y.2), frD (x.1 * frD (-y.1) y.2 + frN (-y.1) y.2 * x.2) (x.2 * frD (-y.1) y.2))
def fQuo (x y : Fr) : Fr := (frN (x.1 * frN y.2 y.1) (x.2 * frD y.2 y.1), frD (x.1 * frN y.2 y.1) (x.2 * frD y.2 y.1))
def fNew (a b : Int) : Fr := (frN a b, frD a b)
/-- A fraction of no more than so many digits, its second number above 0. -/
structure FrOk (x : Fr) (L : Nat) : Prop where
  n : Fits x.1 L
  d : Fits x.2 L
  pos : 0 < x.2
section
variable {x y : Fr} {L : Nat}
theorem FrOk.ne (h : FrOk x L) : x.2 ≠ 0 := by have := h.pos; omega
theorem FrOk.mono {M : Nat} (h : FrOk x L) (hl : L ≤ M) : FrOk x M := ⟨h.n.mono hl, h.d.mono hl, h.pos⟩
theorem FrOk.mul (hx : FrOk x L) (hy : FrOk y L) : FrOk (fMul x y) (L + L) :=
  ⟨(fits_mul hx.n hy.n).abs_le (frN_le _ _), (fits_mul hx.d hy.d).abs_le (frD_le _ _), frD_pos (Int.mul_ne_zero hx.ne hy.ne)⟩
theorem FrOk.add (hx : FrOk x L) (hy : FrOk y L) : FrOk (fAdd x y) (L + L + 1) :=
  ⟨(fits_add (fits_mul hx.n hy.d) (fits_mul hy.n hx.d)).abs_le (frN_le _ _), ((fits_mul hx.d hy.d).mono (Nat.le_succ _)).abs_le (frD_le _ _), frD_pos (Int.mul_ne_zero hx.ne hy.ne)⟩
theorem FrOk.sub (hx : FrOk x L) (hy : FrOk y L) : FrOk (fSub x y) (L + L + 1) := by
  have h1 : Fits (frN (-y.1) y.2) L := hy.n.neg.abs_le (frN_le _ _)
  have h2 : Fits (frD (-y.1) y.2) L := hy.d.abs_le (frD_le _ _)
  have h3 : 0 < frD (-y.1) y.2 := frD_pos hy.ne
  exact ⟨(fits_add (fits_mul hx.n h2) (fits_mul h1 hx.d)).abs_le (frN_le _ _), ((fits_mul hx.d h2).mono (Nat.le_succ _)).abs_le (frD_le _ _), frD_pos (Int.mul_ne_zero hx.ne (by omega))⟩
theorem FrOk.quo (hx : FrOk x L) (hy : FrOk y L) (h0 : y.1 ≠ 0) : FrOk (fQuo x y) (L + L) := by
  have h1 : Fits (frN y.2 y.1) L := hy.d.abs_le (frN_le _ _)
  have h2 : Fits (frD y.2 y.1) L := hy.n.abs_le (frD_le _ _)
  have h3 : 0 < frD y.2 y.1 := frD_pos h0
  exact ⟨(fits_mul hx.n h1).abs_le (frN_le _ _), (fits_mul hx.d h2).abs_le (frD_le _ _), frD_pos (Int.mul_ne_zero hx.ne (by omega))⟩
theorem FrOk.new {a b : Int} (ha : Fits a L) (hb : Fits b L) (h0 : b ≠ 0) : FrOk (fNew a b) L := ⟨ha.abs_le (frN_le _ _), hb.abs_le (frD_le _ _), frD_pos h0⟩
end
/-! ### the fractions' functions, by these -/
section
variable {g gx gy : Nat} {x y : Fr} {L : Nat} {w : World}
theorem rmul_any (hg : RatBlk w g) (hx : RatZ w gx x) (hy : RatZ w gy y) (fx : FrOk x L) (fy : FrOk y L) (l1 : 1 ≤ L) (hL : L + L < 8796093022207) :
    Calls Try.prog 50 #[ptrV g, ptrV gx, ptrV gy] w fun r w' => r = .returned (ptrV g) ∧ RatZ w' g (fMul x y) ∧ w.grownBy w' (some g) :=
  (ratMul_any g gx gy x.1 x.2 y.1 y.2 L w hg hx.1 hx.2.1 hy.1 hy.2.1 fx.ne fy.ne fx.n fx.d fy.n fy.d l1 hL).mono fun r w' h => ⟨h.1, RatZ.of h.2, h.2.2.2.2⟩
theorem radd_any (hg : RatBlk w g) (hx : RatZ w gx x) (hy : RatZ w gy y) (fx : FrOk x L) (fy : FrOk y L) (l1 : 1 ≤ L) (hL : L + L + 1 < 8796093022207) :
    Calls Try.prog 49 #[ptrV g, ptrV gx, ptrV gy] w fun r w' => r = .returned (ptrV g) ∧ RatZ w' g (fAdd x y) ∧ w.grownBy w' (some g) :=
  (ratAdd_any g gx gy x.1 x.2 y.1 y.2 L w hg hx.1 hx.2.1 hy.1 hy.2.1 fx.ne fy.ne fx.n fx.d fy.n fy.d l1 hL).mono fun r w' h => ⟨h.1, RatZ.of h.2, h.2.2.2.2⟩
theorem rsub_any (hg : RatBlk w g) (hx : RatZ w gx x) (hy : RatZ w gy y) (fx : FrOk x L) (fy : FrOk y L) (l1 : 1 ≤ L) (hL : L + L + 1 < 8796093022207) :
    Calls Try.prog 81 #[ptrV g, ptrV gx, ptrV gy] w fun r w' => r = .returned (ptrV g) ∧ RatZ w' g (fSub x y) ∧ w.grownBy w' (some g) :=
  (ratSub_any g gx gy x.1 x.2 y.1 y.2 L w hg hx.1 hx.2.1 hy.1 hy.2.1 fx.ne fy.ne fx.n fx.d fy.n fy.d l1 hL).mono fun r w' h => ⟨h.1, RatZ.of h.2, h.2.2.2.2⟩
theorem rnew_any (n d : Int) (w : World) (h1 : -9223372036854775808 ≤ n) (h2 : n ≤ 9223372036854775807) (h3 : -9223372036854775808 ≤ d) (h4 : d ≤ 9223372036854775807) (h0 : d ≠ 0) :
    Calls Try.prog 51 #[.int .i64 n, .int .i64 d] w fun e w' => e = .returned (ptrV w.heap.size) ∧ RatZ w' w.heap.size (fNew n d) ∧ Below w.heap.size w w' :=
  (newRat_any n d w h1 h2 h3 h4 h0).mono fun r w' h => ⟨h.1, RatZ.ofNew (x := fNew n d) h.2, h.2.2.2.2.1⟩
end
end Go.Proofs.Ytkffakekakhgdaa
