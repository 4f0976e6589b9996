/- Maps from numbers to numbers that the call makes: read as a function of the key; ranged over. No condition. -/
import Derived.Test.YtkffakekakhgdaaBase2
import Derived.Maps.OwnOps
import Derived.Maps.Views
import Derived.Maps.RangeWalk
import Derived.WalkArith
namespace Go.Proofs.Ytkffakekakhgdaa
open Go.ChangeShapes Go.WideShapes Go.ChangeAt Go.RowKit Go.Maps Go.WideMaps
set_option linter.unusedVariables false

theorem kint : Keyed Try.prog 3 := int_keyed Try.underlying3
/-- The datum D says F. -/
structure DatK (D : DataW Unit) (F : Int → Option Int) : Prop where
  map : IsMap D
  has : ∀ x, (Lit.int .i64 x).wf = true → Maps.has D (.int .i64 x) = (F x).isSome
  at_ : ∀ x v, (Lit.int .i64 x).wf = true → F x = some v → ∀ z, D.atKey (.int .i64 x) z = .lit (.int .i64 v)
/-- Block b is a map from numbers to numbers, of at most n: at each number stands F. -/
def MapK (w : World) (b n : Nat) (F : Int → Option Int) : Prop := ∃ D : DataW Unit, w.ownsMap Try.prog 3 (plainElem Try.prog 3) b n D ∧ DatK D F
/-- .. and block r is on its way through it: those that L says are still to come. -/
def RngK (w : World) (b r n : Nat) (F : Int → Option Int) (L : Int → Bool) (cnt : Nat) : Prop :=
  ∃ (D : DataW Unit) (left : Lit → Bool), w.ranges Try.prog 3 (plainElem Try.prog 3) b r n D left cnt ∧ DatK D F ∧ ∀ x, (Lit.int .i64 x).wf = true → left (.int .i64 x) = L x
theorem sameKey_int (x y : Int) : (Lit.int .i64 y).sameKey (.int .i64 x) = decide (y = x) := by
  by_cases h : y = x
  · subst h
    simp [Lit.sameKey]
  · rw [sameKey_ne (fun e => h (by injection e)), decide_eq_false h]
section
variable {w w' : World} {b r n : Nat} {F F' : Int → Option Int} {L : Int → Bool} {cnt : Nat}
theorem MapK.lt (h : MapK w b n F) : b < w.heap.size := by obtain ⟨D, hD, _⟩ := h; exact hD.lt
theorem MapK.kept {row : Option Nat} (h : MapK w b n F) (hg : w.grownBy w' row) (hne : some b ≠ row) : MapK w' b n F := by obtain ⟨D, hD, h2⟩ := h; exact ⟨D, hD.kept hg hne, h2⟩
theorem MapK.below {B : Nat} (h : MapK w b n F) (hb : Below B w w') (hB : b < B) : MapK w' b n F := by
  obtain ⟨D, ⟨es, clock, hh, r⟩, h2⟩ := h
  exact ⟨D, ⟨es, clock, (hb.block b hB).trans hh, r⟩, h2⟩
theorem MapK.alloc (h : MapK w b n F) (o : Obj) : MapK (w.alloc o) b n F := by obtain ⟨D, hD, h2⟩ := h; exact ⟨D, hD.alloc o, h2⟩
theorem MapK.drew (h : MapK w b n F) : MapK w.drew b n F := h
theorem MapK.drewN (h : MapK w b n F) (m : Nat) : MapK (w.drewN m) b n F := h
theorem MapK.mono (h : MapK w b n F) {m : Nat} (hm : n ≤ m) : MapK w b m F := by obtain ⟨D, hD, h2⟩ := h; exact ⟨D, hD.mono hm, h2⟩
theorem MapK.congr (h : MapK w b n F) (e : ∀ x, (Lit.int .i64 x).wf = true → F' x = F x) : MapK w b n F' := by
  obtain ⟨D, hD, h2⟩ := h
  exact ⟨D, hD, h2.map, fun x hx => by rw [e x hx]; exact h2.has x hx, fun x v hx hv => h2.at_ x v hx (by rw [← e x hx]; exact hv)⟩
theorem MapK.made (w : World) : MapK (w.alloc (.map #[] 0)) w.heap.size 0 (fun _ => none) :=
  ⟨_, World.ownsMap_made _ _ _ _, isMap_empty, fun _ _ => rfl, fun _ _ _ h => by cases h⟩
theorem RngK.map (h : RngK w b r n F L cnt) : MapK w b n F := by obtain ⟨D, left, h1, h2, _⟩ := h; exact ⟨D, h1.owns, h2⟩
theorem RngK.ne (h : RngK w b r n F L cnt) : r ≠ b := by obtain ⟨D, left, h1, h2, _⟩ := h; exact h1.ne
theorem RngK.lt (h : RngK w b r n F L cnt) : r < w.heap.size := by obtain ⟨D, left, h1, h2, _⟩ := h; exact h1.lt
theorem RngK.left_eq (h : RngK w b r n F L cnt) : w.rangeLeft b r = cnt := by obtain ⟨D, left, h1, h2, _⟩ := h; exact h1.left_eq
theorem RngK.kept {row : Option Nat} (h : RngK w b r n F L cnt) (hg : w.grownBy w' row) (hb : some b ≠ row) (hr : some r ≠ row) : RngK w' b r n F L cnt := by
  obtain ⟨D, left, h1, h2⟩ := h; exact ⟨D, left, h1.kept hg hb hr, h2⟩
theorem RngK.alloc (h : RngK w b r n F L cnt) (o : Obj) : RngK (w.alloc o) b r n F L cnt := by
  obtain ⟨D, left, h1, h2⟩ := h; exact ⟨D, left, h1.alloc o, h2⟩
theorem RngK.congr {L' : Int → Bool} (h : RngK w b r n F L cnt) (e : ∀ x, (Lit.int .i64 x).wf = true → L' x = L x) : RngK w b r n F L' cnt := by
  obtain ⟨D, left, h1, h2, h3⟩ := h
  exact ⟨D, left, h1, h2, fun x hx => (h3 x hx).trans (e x hx).symm⟩
set_option maxRecDepth 20000 in
theorem MapK.look (h : MapK w b n F) {t : TypeId} (ht : Try.prog.underlying t = some (.map 3 3)) {x : Int} (hx : (Lit.int .i64 x).wf = true) :
    (Instr.lookup t (.map (some b)) (.int .i64 x) false).run Try.prog w = .ok (.int .i64 ((F x).getD 0)) w := by
  obtain ⟨D, h1, h2⟩ := h
  obtain ⟨c, hrun, hat, _⟩ := h1.lookup_int kint ht Try.underlying3 (Try.zeroValue3 _) (keyOf_int_mk (k := 3) Try.underlying3 hx)
  rw [hrun]
  cases hF : F x with
  | none =>
    rw [atKey_of_not_has (by rw [h2.has x hx, hF]; rfl)] at hat
    injection hat with hat
    injection hat with _ hat
    rw [← hat]; rfl
  | some v =>
    rw [h2.at_ x v hx hF] at hat
    injection hat with hat
    injection hat with _ hat
    rw [← hat]; rfl
set_option maxRecDepth 20000 in
theorem MapK.update (h : MapK w b n F) {t : TypeId} (ht : Try.prog.underlying t = some (.map 3 3)) (hn : n < maxLen) {x v : Int} (hx : (Lit.int .i64 x).wf = true) (hv : (Lit.int .i64 v).wf = true) :
    ∃ w', (Instr.mapUpdate t (.map (some b)) (.int .i64 x) (.int .i64 v)).run Try.prog w = .ok () w' ∧ MapK w' b (n + 1) (fun y => if y = x then some v else F y) ∧ w.grownBy w' (some b) := by
  obtain ⟨D, hD, h2⟩ := h
  have hk := keyOf_int_mk (k := 3) Try.underlying3 hx
  obtain ⟨w', hrun, ho, hg⟩ := hD.update kint ht hn hk (plainElem_int Try.underlying3 hv)
  refine ⟨w', hrun, ⟨_, ho, h2.map.put _ _, fun y hy => ?_, fun y u hy hu z => ?_⟩, hg⟩
  · by_cases e : y = x
    · subst e
      rw [has_put_same h2.map (kint.key hk), if_pos rfl]; rfl
    · rw [has_put_other (fun e2 => e (by injection e2)), if_neg e]
      exact h2.has y hy
  · by_cases e : y = x
    · subst e
      rw [if_pos rfl] at hu
      injection hu with hu
      rw [atKey_put_same h2.map (kint.key hk), hu]
    · rw [if_neg e] at hu
      rw [atKey_put_other (fun e2 => e (by injection e2))]
      exact h2.at_ y u hy hu z
end
section
variable (w : World) {ops : Array Oper} {rest : List Oper} {o : Oper} {a : Act} {Q : Exit → Act → World → Prop}
theorem wpList_mapk_look (hg : o.guard = none) (m x : Operand) (t : TypeId) (hop : o.op = Op.lookup t m x false) (ht : Try.prog.underlying t = some (.map 3 3)) (b n : Nat) (F : Int → Option Int)
    (hm : a.eval m = .map (some b)) (h : MapK w b n F) (key : Int) (hx : a.eval x = .int .i64 key) (hk : (Lit.int .i64 key).wf = true)
    (hK : wpList Try.prog ops Q rest (a.put o.dst (.int .i64 ((F key).getD 0))) w) : wpList Try.prog ops Q (o :: rest) a w := by
  refine wpList_plain hg fun K' hK' => ?_
  have hrun := h.look ht hk
  unfold Oper.wp
  simp [execOp, hop, hm, hx, hrun, Result.andThen]
  exact hK' _ _ hK
theorem wpList_mapk_store (hg : o.guard = none) (m x v : Operand) (t : TypeId) (hop : o.op = Op.mapUpdate t m x v) (ht : Try.prog.underlying t = some (.map 3 3)) (b n : Nat) (F : Int → Option Int)
    (hm : a.eval m = .map (some b)) (h : MapK w b n F) (hn : n < maxLen) (key c : Int) (hx : a.eval x = .int .i64 key) (hv : a.eval v = .int .i64 c) (hk : (Lit.int .i64 key).wf = true) (hc : (Lit.int .i64 c).wf = true)
    (hK : ∀ w', Hid (MapK w' b (n + 1) (fun y => if y = key then some c else F y)) → Hid (w.grownBy w' (some b)) → wpList Try.prog ops Q rest (a.put o.dst undef) w') : wpList Try.prog ops Q (o :: rest) a w := by
  refine wpList_plain hg fun K' hK' => ?_
  obtain ⟨w', hrun, r1, r2⟩ := h.update ht hn hk hc
  unfold Oper.wp
  simp [execOp, hop, hm, hx, hv, hrun, Result.andThen]
  exact hK' _ _ (hK w' r1 r2)
theorem wpList_rngk (hg : o.guard = none) (m : Operand) (t : TypeId) (hop : o.op = Op.range t m) (ht : Try.prog.underlying t = some (.map 3 3)) (b n : Nat) (F : Int → Option Int) (hm : a.eval m = .map (some b)) (h : MapK w b n F)
    (hK : ∀ w' cnt, Hid (RngK w' b w.heap.size n F (fun x => (F x).isSome) cnt) → Hid (w.grownBy w' none) → Hid (w'.heap.size = w.heap.size + 1) → wpList Try.prog ops Q rest (a.put o.dst (.pointer (some ⟨w.heap.size, 0, none⟩))) w') :
    wpList Try.prog ops Q (o :: rest) a w := by
  obtain ⟨D, hD, h2⟩ := h
  exact wpList_range_own w hg m t hop 3 3 kint ht _ b n D hm hD fun w' r1 r2 r3 => hK w' _ ⟨D, _, r1, h2, fun x hx => h2.has x hx⟩ r2 r3
theorem wpList_nextk (hg : o.guard = none) (it : Operand) (hop : o.op = Op.next it false) (b r n : Nat) (F : Int → Option Int) (L : Int → Bool) (cnt : Nat) (hit : a.eval it = .pointer (some ⟨r, 0, none⟩)) (h : RngK w b r n F L cnt)
    (hDone : Hid (∀ x, (Lit.int .i64 x).wf = true → L x = false) → wpList Try.prog ops Q rest (a.put o.dst (.tuple #[.bool false])) w)
    (hMore : ∀ (x c : Int) (w' : World) (cnt' : Nat), Hid ((Lit.int .i64 x).wf = true ∧ (Lit.int .i64 c).wf = true) → Hid (L x = true) → Hid (F x = some c) → Hid (RngK w' b r n F (fun y => L y && !decide (y = x)) cnt') → Hid (cnt' < cnt) →
      Hid (w.grownBy w' (some r)) → Hid (w'.heap.size = w.heap.size) → (Instr.entry (.pointer (some ⟨r, 0, none⟩))).run Try.prog w' = .ok (.tuple #[.int .i64 x, .int .i64 c]) w' → wpList Try.prog ops Q rest (a.put o.dst (.tuple #[.bool true, .int .i64 x, .int .i64 c])) w') :
    wpList Try.prog ops Q (o :: rest) a w := by
  obtain ⟨D, left, h1, h2, h3⟩ := h
  refine wpList_next_ranges_ii w hg it hop 3 3 .i64 .i64 kint Try.underlying3 Try.underlying3 b r n D left cnt hit h1 (fun _ hl => hDone fun x hx => by rw [← h3 x hx]; exact hl _) ?_
  intro x c w' cnt' hx hc hl hat hrg hlt hgr hsz hen
  have hF : F x = some c := by
    cases hF : F x with
    | none =>
      have h4 := hat (.lit (.bool true))
      rw [atKey_of_not_has (by rw [h2.has x hx, hF]; rfl)] at h4
      injection h4 with h4
      cases h4
    | some v =>
      have h4 := hat (.lit (.bool true))
      rw [h2.at_ x v hx hF] at h4
      injection h4 with h4
      injection h4 with _ h4
      rw [h4]
  exact hMore x c w' cnt' ⟨hx, hc⟩ (by unfold Hid; rw [← h3 x hx]; exact hl) hF ⟨D, _, hrg, h2, fun y hy => by rw [h3 y hy, sameKey_int]⟩ hlt hgr hsz hen
end
end Go.Proofs.Ytkffakekakhgdaa
