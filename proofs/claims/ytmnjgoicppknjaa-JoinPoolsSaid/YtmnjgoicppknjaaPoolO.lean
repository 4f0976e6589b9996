/- A pool that comes in, opened. No condition. -/
import Derived.Test.YtmnjgoicppknjaaPoolG
import Derived.Lib.SmallJoins
namespace Go.Proofs.Ytmnjgoicppknjaa
open Go.ChangeShapes Go.WideShapes Go.ChangeAt Go.RowKit

set_option maxRecDepth 20000 in
theorem open_pool {H : Type} {enc : TypeId × Value → H} {W : World} {v : Value} {d : DataW H} {ps : List MemPlace} {r : Reach} {b0 : Nat}
    (h : DataW.Trod enc Try.prog W 0 (fun _ => true) true 24 v d ps) (hv : Value.okWide Try.prog W r b0 24 v) :
    ∃ p : Int × Int × Option Addr × List Int × Nat, v = PoolV p.1 p.2.1 (.slice p.2.2.1 p.2.2.2.1.length p.2.2.2.2) ∧ Seg W W.heap.size p.2.2.1 (p.2.2.2.1.map (.int .i64)) := by
  obtain ⟨v0, v1, v2, y0, y1, y2, n, rfl, rfl, rfl, h0, h1, h2⟩ := Joins.open_agg3 Try.underlying24 (by kernel_rfl) (by kernel_rfl) hv h
  obtain ⟨r, e0, _, _⟩ := DataW.trod_int Try.underlying3 h0
  obtain ⟨k, e1, _, _⟩ := DataW.trod_int Try.underlying3 h1
  obtain ⟨a, l, c, e2⟩ := Joins.slice_form Try.underlying22 h2
  simp at e0 e1 e2
  subst e0 e1 e2
  obtain ⟨A, zs, c', e, _, _, _, hs⟩ := open_seg_ints (v := .slice a l c) Try.underlying22 Try.underlying3 (by kernel_rfl) ⟨n, by simpa [Value.cells] using h2⟩ ⟨a, l, c, rfl⟩
  injection e with ea el ec
  subst ea el ec
  exact ⟨(r, k, a, zs, c), rfl, hs⟩
end Go.Proofs.Ytmnjgoicppknjaa
