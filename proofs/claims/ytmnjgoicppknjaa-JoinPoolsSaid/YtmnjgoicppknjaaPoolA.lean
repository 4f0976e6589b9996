/- pool.New, pool.Need, walked. No condition. -/
import Derived.Test.YtmnjgoicppknjaaPoolW
import Derived.Test.YtmnjgoicppknjaaCloneI
import Derived.Test.YtmnjgoicppknjaaBase2
namespace Go.Proofs.Ytmnjgoicppknjaa
open Go.ChangeShapes Go.WideShapes Go.ChangeAt Go.RowKit

/-- The value v is the pool p, its list in memory. -/
def PoolIs (w : World) (v : Value) (p : Int × Int × List Int) : Prop := ∃ A c, v = PoolV p.1 p.2.1 (.slice A p.2.2.length c) ∧ TSeg w 3 A (p.2.2.map (.int .i64))
def pnew (room : Int) : (Int × Int × List Int) × Int := if 1 ≤ room ∧ room ≤ 400 then ((room, 0, []), 0) else ((0, 0, []), 2)
theorem pool_is {w : World} {q p : (Int × Int × List Int) × Int} {v : Value} (h : q = p) (hv : PoolIs w v p.1) : ∃ u, Ending.returned (.tuple #[v, .int .i64 p.2]) = .returned (.tuple #[u, .int .i64 q.2]) ∧ PoolIs w u q.1 := by
  subst h; exact ⟨v, rfl, hv⟩
theorem nil_is (w : World) (r k : Int) : PoolIs w (PoolV r k (.slice none 0 0)) (r, k, []) := ⟨none, 0, rfl, TSeg.nil⟩
theorem fright_new (room : Int) : fright room 0 0 ↔ 1 ≤ room ∧ room ≤ 400 := by
  unfold fright
  constructor
  · intro h; exact ⟨h.1, h.2.1⟩
  · intro h; refine ⟨h.1, h.2, by omega, by omega, by omega⟩

theorem pcells_one (r k : Int) (A : Option Addr) (n c : Nat) : (pcells r k (.slice A n c)).all (·.oneCell') = true := by simp [pcells, Value.oneCell']

end Go.Proofs.Ytmnjgoicppknjaa
