/- The reference's FAdd walked, where nothing is wrong. No condition. -/
import Derived.Test.YtmnjgoicppknjaaPoolC
import Derived.Test.YtmnjgoicppknjaaPoolD
namespace Go.Proofs.Ytmnjgoicppknjaa
open Go.ChangeShapes Go.WideShapes Go.ChangeAt Go.RowKit

/-- What the reference's loop copies. -/
def pcopy (r k x d : Int) (zs : List Int) : List Int := if r ≤ k ∧ d < zs.length then zs.set d.toNat x else zs
theorem pcopy_len (r k x d : Int) (zs : List Int) : (pcopy r k x d zs).length = zs.length := by unfold pcopy; split <;> simp
/-- Where the reference stands in its loop. -/
def FInv (w w1 wr : World) (r k x d : Int) (cs : Array Value) (zs : List Int) (j : Nat) : Prop :=
  ∃ A c, Own wr (w1.heap.size + 1) 3 (.slice A j c) (((pcopy r k x d zs).take j).map (.int .i64)) ∧ Blk wr w1.heap.size 24 (pcells r (k + 1) (.slice A j c)) ∧
    Blk wr w.heap.size 24 cs ∧ Blk wr (w.heap.size + 1) 24 (pcells 0 0 (.slice none 0 0)) ∧ Below w.heap.size w wr ∧ w1.heap.size + 1 ≤ wr.heap.size

end Go.Proofs.Ytmnjgoicppknjaa
