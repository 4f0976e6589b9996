/- The law PoolAdds walked. No condition. -/
import Derived.Test.YtmibifmabkaakaaDoorPoolE
import Derived.Test.YtmibifmabkaakaaDoorPoolF
import Derived.Deep.RegionHeld3
namespace Go.Proofs.YtmibifmabkaakaaDoor
open Go.ChangeShapes Go.WideShapes Go.ChangeAt Go.RowKit

theorem add_any (A : Option Addr) (zs : List Int) (r k x d : Int) (c : Nat) (w : World) (hs : Seg w w.heap.size A (zs.map (.int .i64))) :
    Calls Tryd.prog 75 #[PoolV r k (.slice A zs.length c), .int .i64 x, .int .i64 d] w fun e w' => (∃ v, e = .returned (.tuple #[v, .int .i64 (padd r k zs x d).2]) ∧ PoolIs w' v (padd r k zs x d).1) ∧ Below w.heap.size w w' := by
  by_cases h : padde r k d zs.length = 0
  · exact add_good A zs r k x d c w hs h
  · exact add_bad A zs r k x d c w h
theorem fadd_any (A : Option Addr) (zs : List Int) (r k x d : Int) (c : Nat) (w : World) (hs : Seg w w.heap.size A (zs.map (.int .i64))) :
    Calls Tryd.prog 77 #[PoolV r k (.slice A zs.length c), .int .i64 x, .int .i64 d] w fun e w' => (∃ v, e = .returned (.tuple #[v, .int .i64 (padd r k zs x d).2]) ∧ PoolIs w' v (padd r k zs x d).1) ∧ Below w.heap.size w w' := by
  by_cases h : padde r k d zs.length = 0
  · exact fadd_good A zs r k x d c w hs h
  · exact fadd_bad A zs r k x d c w h
theorem padd_len (r k x d : Int) (zs : List Int) : (padd r k zs x d).1.2.2.length ≤ 401 := by
  unfold padd
  by_cases h : padde r k d zs.length = 0
  · rw [if_pos h]
    obtain ⟨⟨_, _, _, _, h5⟩, _⟩ := padde_zero h
    have : zs.length ≤ 400 := by omega
    unfold paddl
    split
    · simp; omega
    · split <;> simp <;> omega
  · rw [if_neg h]; simp

/-- What a world keeps while the last comparison is made. -/
def LKeep (w w' : World) (g4 g13 g15 : Nat) (r k : Int) (v : Value) (r1 k1 : Int) (v1 : Value) (r2 k2 : Int) (v2 : Value) : Prop :=
  w'.cell? ⟨g4, 0, none⟩ = some (.int .i64 r) ∧ w'.cell? ⟨g4, 1, none⟩ = some (.int .i64 k) ∧ w'.cell? ⟨g4, 2, none⟩ = some v ∧
  w'.cell? ⟨g13, 0, none⟩ = some (.int .i64 r1) ∧ w'.cell? ⟨g13, 1, none⟩ = some (.int .i64 k1) ∧ w'.cell? ⟨g13, 2, none⟩ = some v1 ∧
  w'.cell? ⟨g15, 0, none⟩ = some (.int .i64 r2) ∧ w'.cell? ⟨g15, 1, none⟩ = some (.int .i64 k2) ∧ w'.cell? ⟨g15, 2, none⟩ = some v2 ∧ Below w.heap.size w w'
theorem lkeep_of {w w' : World} {g4 g13 g15 : Nat} {r k r1 k1 r2 k2 : Int} {v v1 v2 : Value} (h4 : Blk w g4 113 (pcells r k v)) (h13 : Blk w g13 113 (pcells r1 k1 v1)) (h15 : Blk w g15 113 (pcells r2 k2 v2))
    (hb : Below w.heap.size w w') : LKeep w w' g4 g13 g15 r k v r1 k1 v1 r2 k2 v2 := by
  have a := h4.below hb h4.lt
  have b := h13.below hb h13.lt
  have c := h15.below hb h15.lt
  exact ⟨a.cell 0 rfl, a.cell 1 rfl, a.cell 2 rfl, b.cell 0 rfl, b.cell 1 rfl, b.cell 2 rfl, c.cell 0 rfl, c.cell 1 rfl, c.cell 2 rfl, hb⟩
theorem lkeep_bel {w w' : World} {g4 g13 g15 : Nat} {r k r1 k1 r2 k2 : Int} {v v1 v2 : Value} (h : LKeep w w' g4 g13 g15 r k v r1 k1 v1 r2 k2 v2) : Below w.heap.size w w' := h.2.2.2.2.2.2.2.2.2

end Go.Proofs.YtmibifmabkaakaaDoor
