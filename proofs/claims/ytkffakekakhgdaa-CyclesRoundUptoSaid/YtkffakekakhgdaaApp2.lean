/- Append of a slice onto a slice of the call's own. Nothing of the program's own functions. No condition. -/
import Derived.Test.YtkffakekakhgdaaApp
namespace Go.Proofs.Ytkffakekakhgdaa
open Go.ChangeShapes Go.WideShapes Go.ChangeAt Go.RowKit

theorem run_append_seg {P : Program} (w : World) {t e b : Nat} (E1 : Elem1 P t e b) (ty : TypeId) (base : Nat) (v : Value) (xs : List Value) (hown : Own w base e v xs) {B : Nat} {C : Option Addr} {ys : List Value} (hy : Seg w B C ys) (h1 : ∀ u ∈ ys, u.oneCell' = true) (d : Nat)
    (hm : xs.length + ys.length ≤ maxLen) (hb : (xs.length + ys.length) * b ≤ 140737488355328) (hbase : base ≤ w.heap.size) :
    ∃ v' w', (Builtin.append_ #[t, t] ty #[v, .slice C ys.length d]).run P w = .ok v' w' ∧ Own w' base e v' (xs ++ ys) ∧ w.grownBy w' v.ownBlock ∧ (v'.ownBlock = v.ownBlock ∨ v'.ownBlock = some w.heap.size) := by
  have hsmall : xs.length + ys.length ≤ 9223372036854775807 := by simp only [maxLen] at hm; omega
  have hs0 := seg_src (P := P) E1.1 hy h1 d
  obtain ⟨ht, i, z, hi, hz, hsz, hby, hzs⟩ := E1
  have hs : Src P i.size t (.slice C ys.length d) ys.length ys w := by rw [hsz]; exact hs0
  by_cases h0 : ys.length = 0
  · obtain rfl : ys = [] := List.eq_nil_of_length_eq_zero h0
    rw [List.append_nil]
    refine ⟨v, w, ?_, hown, World.grownBy.refl _ _, .inl rfl⟩
    have hc := hs.cells
    simp at hc
    rcases hown.2 with ⟨rfl, hn⟩ | ⟨g, cap, cur, rfl, hbg, hgh, hnc, hcm, hcs, htake⟩
    · simp [Builtin.append_, run_underlying ht, sizeOf, typeInfo, hi, Builtin.lenOf, hc]
    · simp [Builtin.append_, run_underlying ht, sizeOf, typeInfo, hi, Builtin.lenOf, hc, storeCells, hnc]
  · obtain ⟨ad, rfl, _, hcl⟩ := hy (by omega)
    have hn : ∀ j y, ys[j]? = some y → w.cell? (ad.add j) = some y := hcl
    obtain ⟨v', w', hr, ho, hg, _⟩ := run_append_own (P := P) w base t ty e i z 1 b ht hi hz hsz hby hzs (by decide) v xs.length xs hown ad ys.length d ys (by simp) hn h1 hm hb hbase
    refine ⟨v', w', hr, Own.to ho, hg, ?_⟩
    rcases hown.2 with ⟨rfl, hx0⟩ | ⟨g, cap, cur, rfl, hbg, hgh, hnc, hcm, hcs, htake⟩
    · have hr2 := run_append_nil (P := P) w t ty e i z ht hi hz ad ys.length d ys (by rw [hsz]; simp) hn (by omega) (by omega) (by rw [hby]; rw [hx0, Nat.zero_add] at hb; omega)
      rw [hr2] at hr
      injection hr with hr _
      subst hr
      exact .inr rfl
    · by_cases hroom : xs.length + ys.length ≤ cap
      · have hr2 := run_append_room (P := P) w t ty e i ht hi g xs.length cap cur hgh ad ys.length d ys (by rw [hsz]; simp) hn h1 hroom (by rw [hsz]; omega)
        rw [hr2] at hr
        injection hr with hr _
        subst hr
        exact .inl rfl
      · have holds : ∀ j u, xs[j]? = some u → w.cell? ((⟨g, 0, none⟩ : Addr).add j) = some u := hown.cells (g := g) rfl
        have hr2 := run_append_grow (P := P) w t ty e i z ht hi hz ⟨g, 0, none⟩ xs.length cap xs (by rw [hsz]; simp) holds ad ys.length d ys (by rw [hsz]; simp) hn (by omega) (by omega) (by rw [hby]; exact growslice_fits (by omega) hb)
        rw [hr2] at hr
        injection hr with hr _
        subst hr
        exact .inr rfl
theorem wp_append_seg {P : Program} (w : World) {o : Oper} {a : Act} {K : Act → World → Prop} {Q : Exit → Act → World → Prop} (s x : Operand) {t e b : Nat} (E1 : Elem1 P t e b) (ho : o.op = .call { callee := .builtin .append, args := #[s, x], argTypes := #[t, t] })
    (base : Nat) (v : Value) (xs : List Value) (hs : a.eval s = v) (hown : Own w base e v xs) {B : Nat} {C : Option Addr} {ys : List Value} {m : Nat} (d : Nat) (hxe : a.eval x = .slice C m d) (hmy : ys.length = m) (hy : Seg w B C ys) (h1 : ∀ u ∈ ys, u.oneCell' = true)
    (hm : xs.length + m ≤ maxLen) (hb : (xs.length + m) * b ≤ 140737488355328) (hbase : base ≤ w.heap.size)
    (h : ∀ v' w', Own w' base e v' (xs ++ ys) → w.grownBy w' v.ownBlock → (v'.ownBlock = v.ownBlock ∨ v'.ownBlock = some w.heap.size) → K (a.put o.dst v') w') : o.wp P a w K Q := by
  subst hmy
  obtain ⟨v', w', hr, h2, h3, h4⟩ := run_append_seg (P := P) w E1 o.type base v xs hown hy h1 d hm hb hbase
  unfold Oper.wp execOp
  simp only [ho, resolve, invoke, builtin, Sem.run_bind, Sem.run_pure, Result.andThen_ok, List.map_toArray, List.map_cons, List.map_nil, hs, hxe, hr]
  exact h v' w' h2 h3 h4
theorem wpList_append_seg {P : Program} (w : World) {ops : Array Oper} {rest : List Oper} {o : Oper} {a : Act} {Q : Exit → Act → World → Prop} (hgd : o.guard = none) (s x : Operand) {t e b : Nat} (E1 : Elem1 P t e b) (ho : o.op = .call { callee := .builtin .append, args := #[s, x], argTypes := #[t, t] })
    (base : Nat) (v : Value) (xs : List Value) (hs : a.eval s = v) (hown : Own w base e v xs) {B : Nat} {C : Option Addr} {ys : List Value} {m : Nat} (d : Nat) (hxe : a.eval x = .slice C m d) (hmy : ys.length = m) (hy : Seg w B C ys) (h1 : ∀ u ∈ ys, u.oneCell' = true)
    (hm : xs.length + m ≤ maxLen) (hb : (xs.length + m) * b ≤ 140737488355328) (hbase : base ≤ w.heap.size)
    (h : ∀ v' w', Own w' base e v' (xs ++ ys) → w.grownBy w' v.ownBlock → (v'.ownBlock = v.ownBlock ∨ v'.ownBlock = some w.heap.size) → wpList P ops Q rest (a.put o.dst v') w') : wpList P ops Q (o :: rest) a w :=
  wpList_plain hgd fun _ hK => wp_append_seg w s x E1 ho base v xs hs hown d hxe hmy hy h1 hm hb hbase fun v' w' h2 h3 h4 => hK _ _ (h v' w' h2 h3 h4)
/-- What '[]T{}' makes. -/
theorem own_empty (w : World) (e base : Nat) (hb : base ≤ w.heap.size) : Own (w.alloc (.cells #[] e)) base e (.slice (some ⟨w.heap.size, 0, none⟩) 0 0) [] :=
  ⟨by simp, .inr ⟨w.heap.size, 0, #[], rfl, hb, Blk.new w e #[], Nat.le_refl _, by simp, rfl, by simp⟩⟩
end Go.Proofs.Ytkffakekakhgdaa
