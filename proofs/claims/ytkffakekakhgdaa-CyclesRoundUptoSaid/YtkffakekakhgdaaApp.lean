/- Append onto a slice that is as long as it can be: a new one comes. Nothing of the program's own functions. No condition. -/
import Derived.Test.YtkffakekakhgdaaBase2
import Derived.Deep.AppendSrc
namespace Go.Proofs.Ytkffakekakhgdaa
open Go.ChangeShapes Go.WideShapes Go.ChangeAt Go.RowKit

theorem seg_src {P : Program} {w : World} {B : Nat} {C : Option Addr} {ys : List Value} {t e : TypeId} (ht : P.underlying t = some (.slice e)) (h : Seg w B C ys) (h1 : ∀ u ∈ ys, u.oneCell' = true) (d : Nat) : Src P 1 t (.slice C ys.length d) ys.length ys w := by
  cases C with
  | none =>
    cases ys with
    | nil => exact Src.ofNil w ht d
    | cons y ys => obtain ⟨ad, e, _⟩ := h (by simp); cases e
  | some ad =>
    refine Src.ofSlice w ht ad ys.length d ys (by simp) (fun j u hu => ?_) h1
    obtain ⟨ad', e, _, hc⟩ := h (by have := (List.getElem?_eq_some_iff.1 hu).1; omega)
    injection e with e
    subst e
    exact hc j u hu
theorem seg_first {P : Program} {w : World} {B : Nat} {A : Option Addr} {xs : List Value} (h : Seg w B A xs) (c : Nat) : (Builtin.firstCells 1 xs.length (.slice A xs.length c)).run P w = .ok xs.toArray w := by
  cases A with
  | none =>
    cases xs with
    | nil => exact run_firstCells_none w 1 0 0 c
    | cons y ys => obtain ⟨ad, e, _⟩ := h (by simp); cases e
  | some ad =>
    refine run_firstCells_some w 1 xs.length ad xs.length c xs (by simp) (fun j u hu => ?_)
    obtain ⟨ad', e, _, hc⟩ := h (by have := (List.getElem?_eq_some_iff.1 hu).1; omega)
    injection e with e
    subst e
    exact hc j u hu
theorem ints_one {k : IntKind} (l : List Int) : ∀ u ∈ l.map (Value.int k), u.oneCell' = true := fun u hu => by
  obtain ⟨y, _, rfl⟩ := List.mem_map.1 hu
  rfl
/-- What an append onto a full slice leaves. -/
theorem run_append_full {P : Program} (w : World) {t e b : Nat} (E1 : Elem1 P t e b) (ty : TypeId) {B B' : Nat} {A C : Option Addr} {xs ys : List Value} (hx : Seg w B A xs) (hB : B ≤ w.heap.size) (hy : Seg w B' C ys) (h1 : ∀ u ∈ ys, u.oneCell' = true) (d : Nat)
    (hm : xs.length + ys.length ≤ maxLen) (hb : (xs.length + ys.length) * b ≤ 140737488355328) :
    ∃ A' c' w', (Builtin.append_ #[t, t] ty #[.slice A xs.length xs.length, .slice C ys.length d]).run P w = .ok (.slice A' (xs.length + ys.length) c') w' ∧ xs.length + ys.length ≤ c' ∧ Seg w' w'.heap.size A' (xs ++ ys) ∧ Below w.heap.size w w' ∧ (A' = A ∨ A' = some ⟨w.heap.size, 0, none⟩) := by
  obtain ⟨ht, i, z, hi, hz, hsz, hby, hzs⟩ := E1
  have hsmall : xs.length + ys.length ≤ 9223372036854775807 := by simp only [maxLen] at hm; omega
  have hs : Src P i.size t (.slice C ys.length d) ys.length ys w := by rw [hsz]; exact seg_src ht hy h1 d
  by_cases h0 : ys.length = 0
  · obtain rfl : ys = [] := List.eq_nil_of_length_eq_zero h0
    refine ⟨A, xs.length, w, ?_, Nat.le_refl _, ?_, Below.refl _ _, .inl rfl⟩
    · have hc := hs.cells
      simp at hc
      cases A <;> simp [Builtin.append_, run_underlying ht, sizeOf, typeInfo, hi, Builtin.lenOf, hc, storeCells]
    · rw [List.append_nil]; exact hx.more hB
  · have hr := run_append_grow_src (P := P) w t t ty e i z ht hi hz A xs.length xs.length xs (by rw [hsz]; exact seg_first hx.drew _) (.slice C ys.length d) ys.length ys hs (by omega) (by omega) (by rw [hby]; exact growslice_fits (by omega) hb)
    refine ⟨_, _, _, hr, grownCap_ge .., fun _ => ⟨_, rfl, ?_, ?_⟩, (Below.drew (Below.refl _ _)).alloc (Nat.le_refl _) _, .inr rfl⟩
    · simp
    · intro k u hu
      have hk : k < (xs ++ ys).length := (List.getElem?_eq_some_iff.1 hu).1
      have hbk : (w.drew.alloc (.cells ((xs ++ ys).toArray ++ Builtin.zeroCells z.cells (grownCap w (xs.length + ys.length) xs.length e - (xs.length + ys.length))) e)).heap[w.heap.size]? = some (.cells ((xs ++ ys).toArray ++ Builtin.zeroCells z.cells (grownCap w (xs.length + ys.length) xs.length e - (xs.length + ys.length))) e (0, 0)) := Deep.blk_alloc_new _ _
      refine World.news_of_block hbk k u ?_
      rw [Array.toList_append, List.getElem?_append_left (by simpa using hk)]
      exact hu
theorem wp_append_full {P : Program} (w : World) {o : Oper} {a : Act} {K : Act → World → Prop} {Q : Exit → Act → World → Prop} (s x : Operand) {t e b : Nat} (E1 : Elem1 P t e b) (ho : o.op = .call { callee := .builtin .append, args := #[s, x], argTypes := #[t, t] })
    {B B' : Nat} {A C : Option Addr} {xs ys : List Value} {n m : Nat} (hs : a.eval s = .slice A n n) (hn : xs.length = n) (hx : Seg w B A xs) (hB : B ≤ w.heap.size) (d : Nat) (hxe : a.eval x = .slice C m d) (hmy : ys.length = m) (hy : Seg w B' C ys) (h1 : ∀ u ∈ ys, u.oneCell' = true)
    (hm : n + m ≤ maxLen) (hb : (n + m) * b ≤ 140737488355328)
    (h : ∀ A' c' w', n + m ≤ c' → Seg w' w'.heap.size A' (xs ++ ys) → Below w.heap.size w w' → (A' = A ∨ A' = some ⟨w.heap.size, 0, none⟩) → K (a.put o.dst (.slice A' (n + m) c')) w') : o.wp P a w K Q := by
  subst hn
  subst hmy
  obtain ⟨A', c', w', hr, h2, h3, h4, h5⟩ := run_append_full (P := P) w E1 o.type hx hB hy h1 d hm hb
  unfold Oper.wp execOp
  simp only [ho, resolve, invoke, builtin, Sem.run_bind, Sem.run_pure, Result.andThen_ok, List.map_toArray, List.map_cons, List.map_nil, hs, hxe, hr]
  exact h A' c' w' h2 h3 h4 h5
theorem wpList_append_full {P : Program} (w : World) {ops : Array Oper} {rest : List Oper} {o : Oper} {a : Act} {Q : Exit → Act → World → Prop} (hgd : o.guard = none) (s x : Operand) {t e b : Nat} (E1 : Elem1 P t e b) (ho : o.op = .call { callee := .builtin .append, args := #[s, x], argTypes := #[t, t] })
    {B B' : Nat} {A C : Option Addr} {xs ys : List Value} {n m : Nat} (hs : a.eval s = .slice A n n) (hn : xs.length = n) (hx : Seg w B A xs) (hB : B ≤ w.heap.size) (d : Nat) (hxe : a.eval x = .slice C m d) (hmy : ys.length = m) (hy : Seg w B' C ys) (h1 : ∀ u ∈ ys, u.oneCell' = true)
    (hm : n + m ≤ maxLen) (hb : (n + m) * b ≤ 140737488355328)
    (h : ∀ A' c' w', n + m ≤ c' → Seg w' w'.heap.size A' (xs ++ ys) → Below w.heap.size w w' → (A' = A ∨ A' = some ⟨w.heap.size, 0, none⟩) → wpList P ops Q rest (a.put o.dst (.slice A' (n + m) c')) w') : wpList P ops Q (o :: rest) a w :=
  wpList_plain hgd fun _ hK => wp_append_full w s x E1 ho hs hn hx hB d hxe hmy hy h1 hm hb fun A' c' w' h2 h3 h4 h5 => hK _ _ (h A' c' w' h2 h3 h4 h5)
/-! ### append of one element, where the new block is told -/
/-- The slice at A does not lie in v's own block. -/
def Apart (A : Option Addr) (v : Value) : Prop := ∀ ad g, A = some ad → v.ownBlock = some g → ad.block ≠ g
theorem Seg.far {w w' : World} {B : Nat} {A : Option Addr} {xs : List Value} {v : Value} (h : Seg w B A xs) (hb : w.grownBy w' v.ownBlock) (ha : Apart A v) (hB : B ≤ w.heap.size) : Seg w' B A xs := fun hl => by
  obtain ⟨ad, e, hlt, hc⟩ := h hl
  refine ⟨ad, e, hlt, fun k u hu => ?_⟩
  rw [World.cell?_of_block (hb.block _ (by rw [addr_block]; omega) (fun e2 => ha ad _ e e2.symm (by rw [addr_block])))]
  exact hc k u hu
theorem Seg.apart_new {w : World} {B : Nat} {A : Option Addr} {xs : List Value} {v v' : Value} (h : Seg w B A xs) (hx : 0 < xs.length) (ha : Apart A v) (hv : v'.ownBlock = v.ownBlock ∨ v'.ownBlock = some w.heap.size) (hB : B ≤ w.heap.size) : Apart A v' := by
  intro ad g e hg
  rcases hv with h1 | h1
  · exact ha ad g e (by rw [← h1]; exact hg)
  · rw [h1] at hg
    injection hg with hg
    obtain ⟨ad', e', hlt, _⟩ := h hx
    rw [e] at e'
    injection e' with e'
    subst e'
    omega
theorem run_push2 {P : Program} (w : World) {t e b : Nat} (E1 : Elem1 P t e b) (ty : TypeId) (base : Nat) (v : Value) (xs : List Value) (hown : Own w base e v xs) (u : Value) (ad : Addr) (c : Nat)
    (hc : w.cell? ad = some u) (hu : u.oneCell' = true) (hb : (xs.length + 1) * b ≤ 140737488355328) (hm : xs.length + 1 ≤ maxLen) (hbase : base ≤ w.heap.size) :
    ∃ v' w', (Builtin.append_ #[t, t] ty #[v, .slice (some ad) 1 c]).run P w = .ok v' w' ∧ Own w' base e v' (xs ++ [u]) ∧ w.grownBy w' v.ownBlock ∧ (v'.ownBlock = v.ownBlock ∨ v'.ownBlock = some w.heap.size) := by
  have hn : ∀ j y, [u][j]? = some y → w.cell? (ad.add j) = some y := fun j y hy => by
    have hj : j = 0 := by have := (List.getElem?_eq_some_iff.1 hy).1; simp at this; exact this
    subst hj
    simp at hy
    subst hy
    exact hc
  have h1 : ∀ y ∈ [u], y.oneCell' = true := by simpa using hu
  obtain ⟨ht, i, z, hi, hz, hsz, hby, hzs⟩ := E1
  obtain ⟨v', w', hr, ho, hg, _⟩ := run_append_own (P := P) w base t ty e i z 1 b ht hi hz hsz hby hzs (by decide) v xs.length xs hown ad 1 c [u] rfl hn h1 hm hb hbase
  refine ⟨v', w', hr, Own.to ho, hg, ?_⟩
  rcases hown.2 with ⟨rfl, h0⟩ | ⟨g, cap, cur, rfl, hbg, hgh, hnc, hcm, hcs, htake⟩
  · have hr2 := run_append_nil (P := P) w t ty e i z ht hi hz ad 1 c [u] (by rw [hsz]; rfl) hn (by omega) (by omega) (by rw [hby]; rw [h0] at hb; omega)
    rw [hr2] at hr
    injection hr with hr _
    subst hr
    exact .inr rfl
  · by_cases hroom : xs.length + 1 ≤ cap
    · have hr2 := run_append_room (P := P) w t ty e i ht hi g xs.length cap cur hgh ad 1 c [u] (by rw [hsz]; rfl) hn h1 hroom (by rw [hsz]; simp; omega)
      rw [hr2] at hr
      injection hr with hr _
      subst hr
      exact .inl rfl
    · have holds : ∀ j u, xs[j]? = some u → w.cell? ((⟨g, 0, none⟩ : Addr).add j) = some u := hown.cells (g := g) rfl
      have hr2 := run_append_grow (P := P) w t ty e i z ht hi hz ⟨g, 0, none⟩ xs.length cap xs (by rw [hsz]; simp) holds ad 1 c [u] (by rw [hsz]; rfl) hn (by omega) (by unfold maxLen at hm; omega) (by rw [hby]; exact growslice_fits (by omega) hb)
      rw [hr2] at hr
      injection hr with hr _
      subst hr
      exact .inr rfl
theorem wp_push2 {P : Program} (w : World) {o : Oper} {a : Act} {K : Act → World → Prop} {Q : Exit → Act → World → Prop} (s x : Operand) {t e b : Nat} (E1 : Elem1 P t e b) (ho : o.op = .call { callee := .builtin .append, args := #[s, x], argTypes := #[t, t] })
    (base : Nat) (v : Value) (xs : List Value) (hs : a.eval s = v) (hown : Own w base e v xs) (u : Value) (ad : Addr) (c : Nat) (hx : a.eval x = .slice (some ad) 1 c)
    (hc : w.cell? ad = some u) (hu : u.oneCell' = true) (hb : (xs.length + 1) * b ≤ 140737488355328) (hm : xs.length + 1 ≤ maxLen) (hbase : base ≤ w.heap.size)
    (h : ∀ v' w', Own w' base e v' (xs ++ [u]) → w.grownBy w' v.ownBlock → (v'.ownBlock = v.ownBlock ∨ v'.ownBlock = some w.heap.size) → K (a.put o.dst v') w') : o.wp P a w K Q := by
  obtain ⟨v', w', hr, h2, h3, h4⟩ := run_push2 (P := P) w E1 o.type base v xs hown u ad c hc hu hb hm hbase
  unfold Oper.wp execOp
  simp only [ho, resolve, invoke, builtin, Sem.run_bind, Sem.run_pure, Result.andThen_ok, List.map_toArray, List.map_cons, List.map_nil, hs, hx, hr]
  exact h v' w' h2 h3 h4
theorem wpList_push2 {P : Program} (w : World) {ops : Array Oper} {rest : List Oper} {o : Oper} {a : Act} {Q : Exit → Act → World → Prop} (hgd : o.guard = none) (s x : Operand) {t e b : Nat} (E1 : Elem1 P t e b) (ho : o.op = .call { callee := .builtin .append, args := #[s, x], argTypes := #[t, t] })
    (base : Nat) (v : Value) (xs : List Value) (hs : a.eval s = v) (hown : Own w base e v xs) (u : Value) (ad : Addr) (c : Nat) (hx : a.eval x = .slice (some ad) 1 c)
    (hc : w.cell? ad = some u) (hu : u.oneCell' = true) (hb : (xs.length + 1) * b ≤ 140737488355328) (hm : xs.length + 1 ≤ maxLen) (hbase : base ≤ w.heap.size)
    (h : ∀ v' w', Own w' base e v' (xs ++ [u]) → w.grownBy w' v.ownBlock → (v'.ownBlock = v.ownBlock ∨ v'.ownBlock = some w.heap.size) → wpList P ops Q rest (a.put o.dst v') w') : wpList P ops Q (o :: rest) a w :=
  wpList_plain hgd fun _ hK => wp_push2 w s x E1 ho base v xs hs hown u ad c hx hc hu hb hm hbase fun v' w' h2 h3 h4 => hK _ _ (h v' w' h2 h3 h4)
end Go.Proofs.Ytkffakekakhgdaa
