/- Draws by places and levels: the reference's places, rows of four cells each; its closures, walked. No condition. -/
import Derived.Test.YtmcbkjepjijfjaaAliK
namespace Go.Proofs.Ytmcbkjepjijfjaa
open Go.ChangeShapes Go.WideShapes Go.ChangeAt Go.RowKit
set_option linter.unusedVariables false

/-- Cell c of a row of places. -/
def qc (L V T : Nat → Int) (D : Nat → Bool) : Nat → Value := fun c => if c % 4 = 0 then .int .i64 (L (c / 4)) else if c % 4 = 1 then .int .i64 (V (c / 4)) else if c % 4 = 2 then .int .i64 (T (c / 4)) else .bool (D (c / 4))
section
variable (L V T : Nat → Int) (D : Nat → Bool) (k : Nat)
theorem qc_0 : qc L V T D (k * 4) = .int .i64 (L k) := by unfold qc; rw [if_pos (by omega), show k * 4 / 4 = k by omega]
theorem qc_1 : qc L V T D (k * 4 + 1) = .int .i64 (V k) := by unfold qc; rw [if_neg (by omega), if_pos (by omega), show (k * 4 + 1) / 4 = k by omega]
theorem qc_2 : qc L V T D (k * 4 + 2) = .int .i64 (T k) := by unfold qc; rw [if_neg (by omega), if_neg (by omega), if_pos (by omega), show (k * 4 + 2) / 4 = k by omega]
theorem qc_3 : qc L V T D (k * 4 + 3) = .bool (D k) := by unfold qc; rw [if_neg (by omega), if_neg (by omega), if_neg (by omega), show (k * 4 + 3) / 4 = k by omega]
end
/-- A block that begins with n places. -/
def QRow (w : World) (g n : Nat) (L V T : Nat → Int) (D : Nat → Bool) : Prop := ∃ N f, n * 4 ≤ N ∧ w.rowIs g 87 N f ∧ ∀ i, i < n * 4 → f i = qc L V T D i
section
variable {w w' : World} {g n k : Nat} {L V T : Nat → Int} {D : Nat → Bool}
theorem QRow.lt (h : QRow w g n L V T D) : g < w.heap.size := by
  obtain ⟨N, f, _, hr, _⟩ := h; exact hr.lt
theorem QRow.frozen (h : QRow w g n L V T D) (i : Nat) : w.frozen? ⟨g, i, none⟩ = false := by
  obtain ⟨N, f, _, hr, _⟩ := h; exact hr.frozen i
theorem QRow.c0 (h : QRow w g n L V T D) (hk : k < n) : w.cell? ⟨g, k * 4, none⟩ = some (.int .i64 (L k)) := by
  obtain ⟨N, f, hN, hr, hf⟩ := h
  rw [hr.cell (by omega), hf _ (by omega), qc_0]
theorem QRow.c1 (h : QRow w g n L V T D) (hk : k < n) : w.cell? ⟨g, k * 4 + 1, none⟩ = some (.int .i64 (V k)) := by
  obtain ⟨N, f, hN, hr, hf⟩ := h
  rw [hr.cell (by omega), hf _ (by omega), qc_1]
theorem QRow.c2 (h : QRow w g n L V T D) (hk : k < n) : w.cell? ⟨g, k * 4 + 2, none⟩ = some (.int .i64 (T k)) := by
  obtain ⟨N, f, hN, hr, hf⟩ := h
  rw [hr.cell (by omega), hf _ (by omega), qc_2]
theorem QRow.c3 (h : QRow w g n L V T D) (hk : k < n) : w.cell? ⟨g, k * 4 + 3, none⟩ = some (.bool (D k)) := by
  obtain ⟨N, f, hN, hr, hf⟩ := h
  rw [hr.cell (by omega), hf _ (by omega), qc_3]
theorem QRow.of_block (h : QRow w g n L V T D) (e : w'.heap[g]? = w.heap[g]?) : QRow w' g n L V T D := by
  obtain ⟨N, f, hN, hr, hf⟩ := h
  exact ⟨N, f, hN, hr.of_block e, hf⟩
theorem QRow.below {B : Nat} (h : QRow w g n L V T D) (hb : Below B w w') (hg : g < B) : QRow w' g n L V T D := h.of_block (hb.block g hg)
theorem QRow.alloc (h : QRow w g n L V T D) (o : Obj) : QRow (w.alloc o) g n L V T D := h.of_block (Below.heap_alloc w o g h.lt)
theorem QRow.far (h : QRow w g n L V T D) {p : Addr} (hp : g ≠ p.block) (u : Value) : QRow (w.setCell p u) g n L V T D := h.of_block (Below.heap_setCell w p u g hp)
theorem QRow.set0 (h : QRow w g n L V T D) (k : Nat) (u : Int) : QRow (w.setCell ⟨g, k * 4, none⟩ (.int .i64 u)) g n (updf L k u) V T D := by
  obtain ⟨N, f, hN, hr, hf⟩ := h
  refine ⟨N, _, hN, hr.set (k * 4) (.int .i64 u), fun i hi => ?_⟩
  show (if i = k * 4 then Value.int .i64 u else f i) = _
  by_cases e : i = k * 4
  · rw [if_pos e, e, qc_0, updf_same]
  · rw [if_neg e, hf i hi]
    unfold qc updf
    by_cases h0 : i % 4 = 0
    · rw [if_pos h0, if_pos h0, if_neg (by omega)]
    · rw [if_neg h0, if_neg h0]
theorem QRow.there (h : QRow w g n L V T D) (hk : k < n) : w.there g (k * 4) 4 := fun j hj => by
  obtain ⟨N, f, hN, hr, hf⟩ := h
  exact ⟨by rw [hr.cell (show k * 4 + j < N by omega)]; rfl, hr.frozen _⟩
theorem QRow.set4 (h : QRow w g n L V T D) (k : Nat) (a b c : Int) (d : Bool) : QRow (w.setCells g (k * 4) [.int .i64 a, .int .i64 b, .int .i64 c, .bool d]) g n (updf L k a) (updf V k b) (updf T k c) (fun i => if i = k then d else D i) := by
  obtain ⟨N, f, hN, hr, hf⟩ := h
  refine ⟨N, _, hN, (((hr.set (k * 4) (.int .i64 a)).set (k * 4 + 1) (.int .i64 b)).set (k * 4 + 2) (.int .i64 c)).set (k * 4 + 3) (.bool d), fun i hi => ?_⟩
  show (if i = k * 4 + 3 then Value.bool d else if i = k * 4 + 2 then Value.int .i64 c else if i = k * 4 + 1 then Value.int .i64 b else if i = k * 4 then Value.int .i64 a else f i) = _
  by_cases e3 : i = k * 4 + 3
  · rw [if_pos e3, e3, qc_3, if_pos rfl]
  by_cases e2 : i = k * 4 + 2
  · rw [if_neg e3, if_pos e2, e2, qc_2, updf_same]
  by_cases e1 : i = k * 4 + 1
  · rw [if_neg e3, if_neg e2, if_pos e1, e1, qc_1, updf_same]
  by_cases e0 : i = k * 4
  · rw [if_neg e3, if_neg e2, if_neg e1, if_pos e0, e0, qc_0, updf_same]
  · rw [if_neg e3, if_neg e2, if_neg e1, if_neg e0, hf i hi]
    have hne : ¬ i / 4 = k := by omega
    unfold qc updf
    simp only [if_neg hne]
end
/-- A call's answer to one test of a place. -/
theorem low_any (x y z S : Int) (o : Bool) (g : Nat) (w : World) (hg : Blk w g 3 #[.int .i64 S]) :
    Calls Try.prog 78 #[.agg #[.int .i64 x, .int .i64 y, .int .i64 z, .bool o], .pointer (some ⟨g, 0, none⟩)] w fun e w' => e = .returned (.bool (decide (x < S))) ∧ Below w.heap.size w w' := by
  have hc := (hg.alloc (.cells #[.int .i64 x, .int .i64 y, .int .i64 z, .bool o] 87)).cell 0 rfl
  have HB : Hid (Below w.heap.size w (w.alloc (.cells #[.int .i64 x, .int .i64 y, .int .i64 z, .bool o] 87))) := (Below.refl _ _).alloc (Nat.le_refl _) _
  have hlt := hg.lt
  clear hg
  go_enter Try.func78, Try.ntmps78
  go_wp2_with fail
  go_ret
  exact ⟨rfl, HB.out⟩
theorem high_any (x y z S : Int) (o : Bool) (g : Nat) (w : World) (hg : Blk w g 3 #[.int .i64 S]) :
    Calls Try.prog 79 #[.agg #[.int .i64 x, .int .i64 y, .int .i64 z, .bool o], .pointer (some ⟨g, 0, none⟩)] w fun e w' => e = .returned (.bool (decide (S < x))) ∧ Below w.heap.size w w' := by
  have hc := (hg.alloc (.cells #[.int .i64 x, .int .i64 y, .int .i64 z, .bool o] 87)).cell 0 rfl
  have HB : Hid (Below w.heap.size w (w.alloc (.cells #[.int .i64 x, .int .i64 y, .int .i64 z, .bool o] 87))) := (Below.refl _ _).alloc (Nat.le_refl _) _
  have hlt := hg.lt
  clear hg
  go_enter Try.func79, Try.ntmps79
  go_wp2_with fail
  go_ret
  exact ⟨rfl, HB.out⟩
end Go.Proofs.Ytmcbkjepjijfjaa
