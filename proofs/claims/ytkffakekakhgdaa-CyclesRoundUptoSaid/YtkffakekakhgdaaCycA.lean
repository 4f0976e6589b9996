/- cycles.Of, walked. No condition. -/
import Derived.Test.YtkffakekakhgdaaCycR
import Derived.Test.YtkffakekakhgdaaPerW
import Derived.Test.YtkffakekakhgdaaHeld
import Derived.Test.YtkffakekakhgdaaBase2
namespace Go.Proofs.Ytkffakekakhgdaa
open Go.ChangeShapes Go.WideShapes Go.ChangeAt Go.RowKit
set_option linter.unusedVariables false

/-- wpList_push, with what is left as it was. -/
theorem wpList_pushY {P : Program} (w : World) {ops : Array Oper} {rest : List Oper} {o : Oper} {a : Act} {Q : Exit → Act → World → Prop} (hgd : o.guard = none) (s x : Operand) (t e : TypeId) (b : Nat)
    (E1 : Elem1 P t e b) (ho : o.op = .call { callee := .builtin .append, args := #[s, x], argTypes := #[t, t] })
    (base : Nat) (v : Value) (xs : List Value) (hs : a.eval s = v) (hown : Own w base e v xs) (u : Value) (ad : Addr) (c : Nat) (hx : a.eval x = .slice (some ad) 1 c)
    (hc : w.cell? ad = some u) (hu : u.oneCell' = true) (hb : (xs.length + 1) * b ≤ 140737488355328) (hm : xs.length + 1 ≤ maxLen) (hbase : base ≤ w.heap.size)
    (h : ∀ v' w', Own w' base e v' (xs ++ [u]) → w.grownBy w' v.ownBlock → wpList P ops Q rest (a.put o.dst v') w') : wpList P ops Q (o :: rest) a w := by
  obtain ⟨ht, i, z, hi, hz, hsz, hby, hzs⟩ := E1
  refine wpList_append_own w hgd s x t ho base e i z 1 b ht hi hz hsz hby hzs (by decide) v xs.length xs hs hown ad 1 c [u] hx rfl (fun j y hy => ?_) (by simpa using hu) hm hb hbase ?_
  · have hj : j = 0 := by
      have := (List.getElem?_eq_some_iff.1 hy).1
      simp at this
      exact this
    subst hj
    simp at hy
    subst hy
    exact hc
  · intro v' w' h1 h2 _
    exact h v' w' (Own.to h1) h2
/-- A slice's row stands where its block stands. -/
theorem Own.stand {w w' : World} {base : Nat} {e : TypeId} {v : Value} {xs : List Value} (h : Own w base e v xs) (hk : ∀ b, v.ownBlock = some b → w'.heap[b]? = w.heap[b]?) : Own w' base e v xs := by
  obtain ⟨h1, h2⟩ := h
  refine ⟨h1, ?_⟩
  rcases h2 with h2 | ⟨g, cap, cur, hv, hg, hh, r⟩
  · exact Or.inl h2
  · exact Or.inr ⟨g, cap, cur, hv, hg, by rw [hk g (by rw [hv]; rfl)]; exact hh, r⟩
theorem Own.base {w : World} {base base' : Nat} {e : TypeId} {v : Value} {xs : List Value} (h : Own w base e v xs) (hb : base' ≤ base) : Own w base' e v xs := by
  obtain ⟨h1, h2⟩ := h
  refine ⟨h1, ?_⟩
  rcases h2 with h2 | ⟨g, cap, cur, hv, hg, r⟩
  · exact Or.inl h2
  · exact Or.inr ⟨g, cap, cur, hv, by omega, r⟩
/-- Rows of two kinds lie in blocks of their own. -/
theorem Own.ne {w : World} {b1 b2 : Nat} {e1 e2 : TypeId} {v1 v2 : Value} {xs ys : List Value} (h1 : Own w b1 e1 v1 xs) (h2 : Own w b2 e2 v2 ys) (he : e1 ≠ e2) : ∀ g, v1.ownBlock = some g → v2.ownBlock ≠ some g := by
  intro g hg1 hg2
  rcases h1.2 with ⟨rfl, _⟩ | ⟨k1, c1, cur1, rfl, _, hh1, _⟩
  · simp [Value.ownBlock] at hg1
  · rcases h2.2 with ⟨rfl, _⟩ | ⟨k2, c2, cur2, rfl, _, hh2, _⟩
    · simp [Value.ownBlock] at hg2
    · have e3 : k1 = g := by simpa [Value.ownBlock] using hg1
      have e4 : k2 = g := by simpa [Value.ownBlock] using hg2
      subst e3
      subst e4
      have e5 := hh1.symm.trans hh2
      injection e5 with e5
      injection e5 with _ e6 _
      exact he e6
theorem Own.apart {w w' : World} {b1 b2 : Nat} {e1 e2 : TypeId} {v1 v2 : Value} {xs ys : List Value} (h1 : Own w b1 e1 v1 xs) (h2 : Own w b2 e2 v2 ys) (he : e1 ≠ e2) (hg : w.grownBy w' v2.ownBlock) : Own w' b1 e1 v1 xs := by
  have hn := h1.ne h2 he
  cases e : v2.ownBlock with
  | none =>
    rw [e] at hg
    exact h1.below ((Below.refl w.heap.size w).grown hg (Nat.le_refl _) (fun q hq => by cases hq)) (Nat.le_refl _)
  | some k =>
    rw [e] at hg
    exact h1.keepRow hg fun g hg1 hk => hn g hg1 (by rw [e, hk])
/-- All but one block stand. -/
def Kept (hb : Nat) (wo w : World) : Prop := wo.heap.size ≤ w.heap.size ∧ ∀ b, b < wo.heap.size → b ≠ hb → w.heap[b]? = wo.heap[b]?
theorem Kept.refl (hb : Nat) (w : World) : Kept hb w w := ⟨Nat.le_refl _, fun _ _ _ => rfl⟩
theorem Kept.setHb {hb : Nat} {wo w : World} (h : Kept hb wo w) (i : Nat) (u : Value) : Kept hb wo (w.setCell ⟨hb, i, none⟩ u) :=
  ⟨Nat.le_trans h.1 ((Below.refl 0 w).setCell (p := ⟨hb, i, none⟩) (Nat.zero_le _) u).size, fun b hlt hne => (Go.Deep.blk_setCell_other _ _ _ _ hne).trans (h.2 b hlt hne)⟩
theorem Kept.below {hb : Nat} {wo w w' : World} (h : Kept hb wo w) (hw : Below w.heap.size w w') : Kept hb wo w' :=
  ⟨Nat.le_trans h.1 hw.size, fun b hlt hne => (hw.block b (Nat.lt_of_lt_of_le hlt h.1)).trans (h.2 b hlt hne)⟩
theorem Kept.grown {hb : Nat} {wo w w' : World} {v : Value} {e : TypeId} {xs : List Value} (h : Kept hb wo w) (ho : Own w wo.heap.size e v xs) (hg : w.grownBy w' v.ownBlock) : Kept hb wo w' := by
  have hb := (Below.refl wo.heap.size w).grown hg h.1 ho.block
  exact ⟨Nat.le_trans h.1 hb.size, fun b hlt hne => (hb.block b hlt).trans (h.2 b hlt hne)⟩
theorem Own.kept {hb base : Nat} {wo w : World} {e : TypeId} {v : Value} {xs : List Value} (h : Own wo base e v xs) (hk : Kept hb wo w) (hb2 : hb < base) : Own w base e v xs :=
  h.stand fun b e => hk.2 b (h.lt b e) (by have := h.block b e; omega)

abbrev NI (l : List Nat) : List Int := l.map fun (x : Nat) => (x : Int)
/-- A slice of slices of numbers, all of the call's own. -/
def RowsO (W : World) (base : Nat) (v : Value) (R : List (List Int)) : Prop :=
  ∃ vals : List Value, Own W base 36 v vals ∧ vals.length = R.length ∧ ∀ (i : Nat) (u : Value) (r : List Int), vals[i]? = some u → R[i]? = some r → Own W base 3 u (r.map (.int .i64))
theorem RowsO.none_ {W : World} {base : Nat} : RowsO W base (.slice none 0 0) [] := ⟨[], Own.none_, rfl, fun i u r h => by simp at h⟩
theorem RowsO.kept {hb base : Nat} {wo w : World} {v : Value} {R : List (List Int)} (h : RowsO wo base v R) (hk : Kept hb wo w) (hb2 : hb < base) : RowsO w base v R := by
  obtain ⟨vals, h1, h2, h3⟩ := h
  exact ⟨vals, h1.kept hk hb2, h2, fun i u r hu hr => (h3 i u r hu hr).kept hk hb2⟩
theorem RowsO.below {base : Nat} {w w' : World} {v : Value} {R : List (List Int)} (h : RowsO w base v R) (hb : Below w.heap.size w w') : RowsO w' base v R := by
  obtain ⟨vals, h1, h2, h3⟩ := h
  exact ⟨vals, h1.below hb (Nat.le_refl _), h2, fun i u r hu hr => (h3 i u r hu hr).below hb (Nat.le_refl _)⟩
theorem RowsO.base {base base' : Nat} {w : World} {v : Value} {R : List (List Int)} (h : RowsO w base v R) (hb : base' ≤ base) : RowsO w base' v R := by
  obtain ⟨vals, h1, h2, h3⟩ := h
  exact ⟨vals, h1.base hb, h2, fun i u r hu hr => (h3 i u r hu hr).base hb⟩
theorem own_slice {w : World} {base : Nat} {e : TypeId} {v : Value} {xs : List Value} (h : Own w base e v xs) : ∃ A c, v = .slice A xs.length c := by
  obtain ⟨A, c, h1, _⟩ := h.res
  exact ⟨A, c, h1⟩
theorem ints_ne : (3 : TypeId) ≠ 36 := by decide
theorem RowsO.push {base : Nat} {w w' : World} {v v' lv : Value} {R : List (List Int)} {vals : List Value} {r : List Int} (h1 : Own w base 36 v vals) (h2 : vals.length = R.length) (h3 : ∀ (i : Nat) (u : Value) (r : List Int), vals[i]? = some u → R[i]? = some r → Own w base 3 u (r.map (.int .i64)))
    (hl : Own w base 3 lv (r.map (.int .i64))) (ho : Own w' base 36 v' (vals ++ [lv])) (hg : w.grownBy w' v.ownBlock) : RowsO w' base v' (R ++ [r]) := by
  refine ⟨vals ++ [lv], ho, by simp [h2], fun i u r' hu hr => ?_⟩
  by_cases e : i < vals.length
  · rw [List.getElem?_append_left e] at hu
    rw [List.getElem?_append_left (by omega)] at hr
    exact (h3 i u r' hu hr).apart h1 ints_ne hg
  · have hi : i = vals.length := by
      have := (List.getElem?_eq_some_iff.1 hu).1
      simp at this
      omega
    subst hi
    rw [List.getElem?_append_right (Nat.le_refl _), Nat.sub_self] at hu
    rw [h2, List.getElem?_append_right (Nat.le_refl _), Nat.sub_self] at hr
    simp at hu hr
    subst hu
    subst hr
    exact hl.apart h1 ints_ne hg
theorem elem_rows : Elem1 Try.prog 35 36 24 := elem_of (z := .slice none 0 0) Try.underlying35 (by kernel_rfl) rfl
/-- The length of a slice. -/
def rlen : Value → Nat
  | .slice _ n _ => n
  | _ => 0
/-- Up to where a round goes. -/
theorem lim_ex {q : Nat → Nat} {n k : Nat} (h : PermF q n) (hk : k < n) : ∃ lim, lim ≤ n ∧ (∀ j, j < lim → midB q n k j (it q j k) = false) ∧ midB q n k lim (it q lim k) = true ∧ (∀ x, midB q n k lim x = hadB q n (k + 1) x) ∧
    ofs q n (k + 1) = if lim = 0 then ofs q n k else ofs q n k ++ [(List.range lim).map fun j => it q j k] := by
  cases e : hadB q n k k with
  | true =>
    refine ⟨0, Nat.zero_le _, fun j hj => absurd hj (Nat.not_lt_zero j), ?_, fun x => ?_, ?_⟩
    · rw [midB_zero]; exact e
    · rw [midB_zero, hadB_skip h hk e]
    · rw [if_pos rfl, ofs_old e]
  | false =>
    obtain ⟨h1, h2, _⟩ := per_is h hk
    refine ⟨per q n k, h2, fun j hj => midB_go h hk e hj, midB_stop h hk, midB_end q n k, ?_⟩
    rw [if_neg (by omega), ofs_new e]; rfl
end Go.Proofs.Ytkffakekakhgdaa
