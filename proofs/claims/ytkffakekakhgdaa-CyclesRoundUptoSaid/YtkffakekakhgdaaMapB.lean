/- Maps from numbers to truth values that the call makes: read as a function of the key. No condition. -/
import Derived.Test.YtkffakekakhgdaaBase2
import Derived.Maps.OwnOps
import Derived.Maps.Views
import Derived.WalkArith
namespace Go.Proofs.Ytkffakekakhgdaa
open Go.ChangeShapes Go.WideShapes Go.ChangeAt Go.RowKit Go.Maps Go.WideMaps

theorem keyed_int : Keyed Try.prog 3 := int_keyed Try.underlying3
theorem plainElem_bool_inv {P : Program} {e : TypeId} (he : P.underlying e = some .bool) {v : Value} {z : DataW Unit × List MemPlace} (h : plainElem P e v = some z) : ∃ x, v = .bool x ∧ z = (.lit (.bool x), []) := by
  unfold plainElem at h
  rw [he] at h
  cases v <;> simp at h
  subst h
  exact ⟨_, rfl, rfl⟩
/-- Block b is a map from numbers to truth values; at each number stands F (false where there is none). -/
def MapB (w : World) (b n : Nat) (F : Int → Bool) : Prop :=
  ∃ D : DataW Unit, w.ownsMap Try.prog 3 (plainElem Try.prog 4) b n D ∧ IsMap D ∧ ∀ x, (Lit.int .i64 x).wf = true → D.atKey (.int .i64 x) (.lit (.bool false)) = .lit (.bool (F x))
section
variable {w w' : World} {b n : Nat} {F F' : Int → Bool}
theorem MapB.lt (h : MapB w b n F) : b < w.heap.size := by
  obtain ⟨D, hD, _⟩ := h
  exact hD.lt
theorem MapB.below {B : Nat} (h : MapB w b n F) (hb : Below B w w') (hB : b < B) : MapB w' b n F := by
  obtain ⟨D, ⟨es, clock, hh, r⟩, h2, h3⟩ := h
  exact ⟨D, ⟨es, clock, (hb.block b hB).trans hh, r⟩, h2, h3⟩
theorem MapB.drew (h : MapB w b n F) : MapB w.drew b n F := h
theorem MapB.drewN (h : MapB w b n F) (m : Nat) : MapB (w.drewN m) b n F := h
theorem MapB.mono (h : MapB w b n F) {m : Nat} (hm : n ≤ m) : MapB w b m F := by
  obtain ⟨D, h1, h2⟩ := h
  exact ⟨D, h1.mono hm, h2⟩
theorem MapB.made (w : World) : MapB (w.alloc (.map #[] 0)) w.heap.size 0 (fun _ => false) :=
  ⟨_, World.ownsMap_made _ _ _ _, isMap_empty, fun _ _ => rfl⟩
theorem MapB.congr (h : MapB w b n F) (e : ∀ x, F' x = F x) : MapB w b n F' := by
  rw [show F' = F from funext e]; exact h
set_option maxRecDepth 20000 in
theorem MapB.look (h : MapB w b n F) {t : TypeId} (ht : Try.prog.underlying t = some (.map 3 4)) {x : Int} (hx : (Lit.int .i64 x).wf = true) :
    (Instr.lookup t (.map (some b)) (.int .i64 x) false).run Try.prog w = .ok (.bool (F x)) w := by
  obtain ⟨D, h1, _, h3⟩ := h
  obtain ⟨v, ps, hrun, hv⟩ := h1.lookup keyed_int ht (z := .bool false) (Try.zeroValue4 _) (plainElem_bool Try.underlying4 false) (keyOf_int_mk Try.underlying3 hx)
  rw [h3 x hx] at hv
  obtain ⟨y, rfl, hy⟩ := plainElem_bool_inv Try.underlying4 hv
  injection hy with hy
  injection hy with hy
  injection hy with hy
  rw [hrun, hy]
theorem MapB.update (h : MapB w b n F) {t : TypeId} (ht : Try.prog.underlying t = some (.map 3 4)) (hn : n < maxLen) {x : Int} {v : Bool} (hx : (Lit.int .i64 x).wf = true) :
    ∃ w', (Instr.mapUpdate t (.map (some b)) (.int .i64 x) (.bool v)).run Try.prog w = .ok () w' ∧ MapB w' b (n + 1) (fun y => if y = x then v else F y) ∧ w.grownBy w' (some b) := by
  obtain ⟨D, hD, hm, h3⟩ := h
  have hk := keyOf_int_mk (k := 3) Try.underlying3 hx
  obtain ⟨w', hrun, ho, hg⟩ := hD.update keyed_int ht hn hk (plainElem_bool Try.underlying4 v)
  refine ⟨w', hrun, ⟨_, ho, ?_, fun y hy => ?_⟩, hg⟩
  · obtain ⟨es, rfl⟩ := hm
    exact ⟨_, DataW.put_eq ..⟩
  · by_cases e1 : y = x
    · subst e1
      show _ = DataW.lit (Lit.bool (if y = y then v else F y))
      rw [atKey_put_same hm (keyed_int.key hk), if_pos rfl]
    · show _ = DataW.lit (Lit.bool (if y = x then v else F y))
      rw [if_neg e1, atKey_put_other (fun e2 => e1 (by injection e2))]
      exact h3 y hy
theorem wpList_mapb_store (w : World) {ops : Array Oper} {rest : List Oper} {o : Oper} {a : Act} {Q : Exit → Act → World → Prop}
    (hg : o.guard = none) (m x v : Operand) (t : TypeId) (hop : o.op = Op.mapUpdate t m x v) (ht : Try.prog.underlying t = some (.map 3 4)) (b n : Nat) (F : Int → Bool)
    (hm : a.eval m = .map (some b)) (h : MapB w b n F) (hn : n < maxLen) (key : Int) (c : Bool) (hx : a.eval x = .int .i64 key) (hv : a.eval v = .bool c) (hk : (Lit.int .i64 key).wf = true)
    (hK : ∀ w', MapB w' b (n + 1) (fun y => if y = key then c else F y) → w.grownBy w' (some b) → wpList Try.prog ops Q rest (a.put o.dst undef) w') : wpList Try.prog ops Q (o :: rest) a w := by
  refine wpList_plain hg fun K' hK' => ?_
  obtain ⟨w', hrun, r1, r2⟩ := h.update ht hn hk (v := c)
  unfold Oper.wp
  simp [execOp, hop, hm, hx, hv, hrun, Result.andThen]
  exact hK' _ _ (hK w' r1 r2)
end
end Go.Proofs.Ytkffakekakhgdaa
