/- pool.Add walked. No condition. -/
import Derived.Test.YtmnjgoicppknjaaPoolA
namespace Go.Proofs.Ytmnjgoicppknjaa
open Go.ChangeShapes Go.WideShapes Go.ChangeAt Go.RowKit

/-- What is wrong with one that comes to a pool. -/
def padde (r k d : Int) (n : Nat) : Int := if fright r k n then (if k = 1099511627776 then 4 else if d < 0 ∨ k < d then 2 else 0) else 1
def paddl (r x d : Int) (zs : List Int) : List Int := if (zs.length : Int) < r then zs ++ [x] else if d < r then zs.set d.toNat x else zs
def padd (r k : Int) (zs : List Int) (x d : Int) : (Int × Int × List Int) × Int :=
  if padde r k d zs.length = 0 then ((r, k + 1, paddl r x d zs), 0) else ((0, 0, []), padde r k d zs.length)
theorem padd_bad {r k x d e : Int} {zs : List Int} (h : padde r k d zs.length = e) (he : e ≠ 0) : padd r k zs x d = ((0, 0, []), e) := by
  unfold padd; rw [h, if_neg he]
theorem padd_good {r k x d : Int} {zs l : List Int} (h : padde r k d zs.length = 0) (hl : paddl r x d zs = l) : padd r k zs x d = ((r, k + 1, l), 0) := by
  unfold padd; rw [h, if_pos rfl, hl]

section
variable {w w1 : World} {r k : Int} {v : Value}
theorem two_blocks (hb : Below (w.heap.size + 2) ((w.alloc (.cells (pcells r k v) 24)).alloc (.cells (pcells 0 0 (.slice none 0 0)) 24)) w1) :
    Blk w1 w.heap.size 24 (pcells r k v) ∧ Blk w1 (w.heap.size + 1) 24 (pcells 0 0 (.slice none 0 0)) ∧ Below w.heap.size w w1 := by
  refine ⟨((Blk.new w _ _).alloc _).below hb (by omega), ?_, ?_⟩
  · have := (Blk.new (w.alloc (.cells (pcells r k v) 24)) 24 (pcells 0 0 (.slice none 0 0))).below hb (by simp)
    simpa using this
  · exact (((Below.refl _ _).alloc (Nat.le_refl _) _).alloc (by simp) _).trans (hb.mono (by omega))
end

end Go.Proofs.Ytmnjgoicppknjaa
