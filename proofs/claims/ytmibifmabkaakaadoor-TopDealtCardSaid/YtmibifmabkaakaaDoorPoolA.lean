/- pool.New, pool.Need, walked. No condition. -/
import Derived.Test.YtmibifmabkaakaaDoorPoolW
import Derived.Test.YtmibifmabkaakaaDoorCloneI
import Derived.Test.YtmibifmabkaakaaDoorBase2
namespace Go.Proofs.YtmibifmabkaakaaDoor
open Go.ChangeShapes Go.WideShapes Go.ChangeAt Go.RowKit

/-- The value v is the pool p, its list in memory. -/
def PoolIs (w : World) (v : Value) (p : Int × Int × List Int) : Prop := ∃ A c, v = PoolV p.1 p.2.1 (.slice A p.2.2.length c) ∧ TSeg w 3 A (p.2.2.map (.int .i64))
def pnew (room : Int) : (Int × Int × List Int) × Int := if 1 ≤ room ∧ room ≤ 400 then ((room, 0, []), 0) else ((0, 0, []), 2)
theorem pool_is {w : World} {q p : (Int × Int × List Int) × Int} {v : Value} (h : q = p) (hv : PoolIs w v p.1) : ∃ u, Ending.returned (.tuple #[v, .int .i64 p.2]) = .returned (.tuple #[u, .int .i64 q.2]) ∧ PoolIs w u q.1 := by
  subst h; exact ⟨v, rfl, hv⟩
theorem nil_is (w : World) (r k : Int) : PoolIs w (PoolV r k (.slice none 0 0)) (r, k, []) := ⟨none, 0, rfl, TSeg.nil⟩
theorem fright_new (room : Int) : fright room 0 0 ↔ 1 ≤ room ∧ room ≤ 400 := by
  unfold fright
  constructor
  · intro h; exact ⟨h.1, h.2.1⟩
  · intro h; refine ⟨h.1, h.2, by omega, by omega, by omega⟩

theorem pcells_one (r k : Int) (A : Option Addr) (n c : Nat) : (pcells r k (.slice A n c)).all (·.oneCell') = true := by simp [pcells, Value.oneCell']

set_option maxRecDepth 20000 in
set_option maxHeartbeats 1000000 in
theorem new_any (room : Int) (w : World) :
    Calls Tryd.prog 74 #[.int .i64 room] w fun e w' => (∃ v, e = .returned (.tuple #[v, .int .i64 (pnew room).2]) ∧ PoolIs w' v (pnew room).1) ∧ Below w.heap.size w w' := by
  by_cases h : 1 ≤ room ∧ room ≤ 400
  · have hf : Hid (pnew room = ((room, 0, []), 0)) := if_pos h
    have hr : decide (fright room 0 0) = true := decide_eq_true ((fright_new room).2 h)
    clear h
    go_enter Tryd.func74, Tryd.ntmps74
    go_wp2_with fail
    refine (right_any none room 0 0 0 _).mono ?_
    rintro e w1 ⟨rfl, hb⟩
    rw [hr]
    have HB := Lib.hid hb
    have B0 : Hid (Blk w1 w.heap.size 113 (pcells 0 0 (.slice none 0 0))) := ((Blk.new w _ _).alloc _).below hb (by simp; omega)
    have B1 : Hid (Blk w1 (w.heap.size + 1) 113 (pcells room 0 (.slice none 0 0))) := by
      have := (Blk.new (w.alloc (.cells (pcells 0 0 (.slice none 0 0)) 113)) 113 (pcells room 0 (.slice none 0 0))).below hb (by simp)
      unfold Hid; simpa using this
    clear hb hr
    go_wp2_with (first | (refine wpList_store_blk rfl _ _ _ rfl w.heap.size (pcells room 0 (.slice none 0 0)) rfl rfl _ _ B0.out (by kernel_rfl) rfl (pcells_one _ _ _ _ _) ?_; intro w2 hb2 hg2 hs2; have HS2 := Lib.hid hs2; have HB2 := Lib.hid hb2; have HG2 := Lib.hid hg2; clear hs2 hb2 hg2) | (refine wpList_load_blk rfl _ _ rfl (w.heap.size + 1) rfl _ _ _ B1.out Tryd.underlying113 rfl (by kernel_rfl) ?_) | fail)
    refine bodyPost_ret (v := .tuple #[PoolV room 0 (.slice none 0 0), .int .i64 0]) (results_ct (a := 3) Tryd.results74 _ rfl HB2.out Tryd.underlying113 rfl (by kernel_rfl)) rfl ⟨pool_is hf.out (nil_is _ _ _), ?_⟩
    have := HB.out.size
    simp at this
    exact ((((Below.refl _ _).alloc (Nat.le_refl _) _).alloc (by simp) _).trans (HB.out.mono (by simp; omega))).grown HG2.out (by omega) (by simp)
  · have hf : Hid (pnew room = ((0, 0, []), 2)) := if_neg h
    have hr : decide (fright room 0 0) = false := decide_eq_false (fun hh => h ((fright_new room).1 hh))
    clear h
    go_enter Tryd.func74, Tryd.ntmps74
    go_wp2_with fail
    refine (right_any none room 0 0 0 _).mono ?_
    rintro e w1 ⟨rfl, hb⟩
    rw [hr]
    have HB := Lib.hid hb
    have B0 : Hid (Blk w1 w.heap.size 113 (pcells 0 0 (.slice none 0 0))) := ((Blk.new w _ _).alloc _).below hb (by simp; omega)
    clear hb hr
    go_wp2_with (first | (refine wpList_store_blk rfl _ _ _ rfl w.heap.size (pcells 0 0 (.slice none 0 0)) rfl rfl _ _ B0.out (by kernel_rfl) rfl (pcells_one _ _ _ _ _) ?_; intro w2 hb2 hg2 hs2; have HS2 := Lib.hid hs2; have HB2 := Lib.hid hb2; have HG2 := Lib.hid hg2; clear hs2 hb2 hg2) | fail)
    refine bodyPost_ret (v := .tuple #[PoolV 0 0 (.slice none 0 0), .int .i64 2]) (results_ct (a := 3) Tryd.results74 _ rfl HB2.out Tryd.underlying113 rfl (by kernel_rfl)) rfl ⟨pool_is hf.out (nil_is _ _ _), ?_⟩
    have := HB.out.size
    simp at this
    exact ((((Below.refl _ _).alloc (Nat.le_refl _) _).alloc (by simp) _).trans (HB.out.mono (by simp; omega))).grown HG2.out (by omega) (by simp)
end Go.Proofs.YtmibifmabkaakaaDoor
