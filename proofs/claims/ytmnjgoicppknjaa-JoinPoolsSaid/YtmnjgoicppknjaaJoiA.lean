/- Pools joined: what is answered where nothing is drawn, walked. No condition. -/
import Derived.Test.YtmnjgoicppknjaaJoiM
import Derived.Test.YtmnjgoicppknjaaPoolG
namespace Go.Proofs.Ytmnjgoicppknjaa
open Go.ChangeShapes Go.WideShapes Go.ChangeAt Go.RowKit
set_option linter.unusedVariables false

/-- The error that is told ahead of the draws; 0: none. -/
def jpe (ra ka : Int) (na : Nat) (rb kb : Int) (nb nd nw : Nat) : Int :=
  if fright ra ka na ∧ fright rb kb nb ∧ ra = rb then if 1099511627776 < ka + kb then 4 else if (nd : Int) < min ra (ka + kb) ∨ (nw : Int) < min ra (ka + kb) then 7 else 0 else 1
/-- The pool of two, and the error. -/
def jpR (ra ka : Int) (za : List Int) (rb kb : Int) (zb ds ws : List Int) : (Int × Int × List Int) × Int :=
  if jpe ra ka za.length rb kb zb.length ds.length ws.length = 0 then
    match JS.run za zb ds ws (min ra (ka + kb)).toNat 0 (JS.start ka kb) with
    | none => ((0, 0, []), 2)
    | some o => ((ra, ka + kb, o), 0)
  else ((0, 0, []), jpe ra ka za.length rb kb zb.length ds.length ws.length)
set_option maxRecDepth 20000 in
set_option maxHeartbeats 1000000 in
theorem jno_any (x : Int) (w : World) :
    Calls Try.prog 121 #[.int .i64 x] w fun e w' => e = .returned (.tuple #[PoolV 0 0 (.slice none 0 0), .int .i64 x]) ∧ Below w.heap.size w w' := by
  have HB : Hid (Below w.heap.size w (w.alloc (.cells (pcells 0 0 (.slice none 0 0)) 24))) := (Below.refl _ _).alloc (Nat.le_refl _) _
  have HR := Lib.hid (Blk.new w 24 (pcells 0 0 (.slice none 0 0)))
  go_enter Try.func121, Try.ntmps121
  go_wp2_with (first | (refine wpList_store_blk rfl _ _ _ rfl w.heap.size (pcells 0 0 (.slice none 0 0)) rfl rfl 24 (pcells 0 0 (.slice none 0 0)) ?_ (by kernel_rfl) rfl (pcells_one _ _ _ _ _) ?_; exact HR.out; intro w4 hb4 hg4 hs4; have HS4 := Lib.hid hs4; have HB4 := Lib.hid hb4; have HG4 := Lib.hid hg4; clear hs4 hb4 hg4) | fail)
  refine bodyPost_ret (v := .tuple #[PoolV 0 0 (.slice none 0 0), .int .i64 x]) (results_ct (a := 3) Try.results121 _ rfl HB4.out Try.underlying24 rfl (by kernel_rfl)) rfl ⟨rfl, HB.out.grown HG4.out (by simp) (fun q hq => by injection hq with hq; omega)⟩
end Go.Proofs.Ytmnjgoicppknjaa
