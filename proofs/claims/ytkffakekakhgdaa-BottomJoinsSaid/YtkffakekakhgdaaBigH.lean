/- Whole numbers in memory: differences. No condition. -/
import Derived.Test.YtkffakekakhgdaaBigG
namespace Go.Proofs.Ytkffakekakhgdaa
open Go.ChangeShapes Go.WideShapes Go.ChangeAt Go.RowKit

theorem Fits.neg {z : Int} {L : Nat} (h : Fits z L) : Fits (-z) L := by unfold Fits at *; rw [Int.natAbs_neg]; exact h
set_option maxRecDepth 20000 in
set_option maxHeartbeats 2000000 in
theorem sub_any (g gx ox gy oy : Nat) (x y : Int) (L : Nat) (w : World) (hg : IntBlk w g) (hx : IntZ w gx ox x) (hy : IntZ w gy oy y) (fx : Fits x L) (fy : Fits y L) (hL : L < 17592186044416) :
    Calls Try.prog 104 #[.pointer (some ⟨g, 0, none⟩), .pointer (some ⟨gx, ox, none⟩), .pointer (some ⟨gy, oy, none⟩)] w fun e w' => e = .returned (.pointer (some ⟨g, 0, none⟩)) ∧ PutZ w w' g (x - y) := by
  have HG := Lib.hid hg
  have HX := Lib.hid hx
  have HY := Lib.hid hy
  have FX := Lib.hid fx
  have FY := Lib.hid fy.neg
  clear hg hx hy fx fy
  go_enter Try.func104, Try.ntmps104
  go_wp2_with fail
  refine (neg_any w.heap.size gy oy y _ (newBlk _ _ _) (HY.out.alloc _)).mono ?_
  rintro e w1 ⟨rfl, hp⟩
  have HN := Lib.hid hp.new
  clear hp
  go_wp2_with fail
  refine (add_any g gx ox w.heap.size 0 x (-y) L _ (HG.out.below HN.out.2.2.1) (HX.out.below HN.out.2.2.1) HN.out.1 FX.out FY.out hL).mono ?_
  rintro e w2 ⟨rfl, hp⟩
  rw [← Int.sub_eq_add_neg] at hp
  have HP : Hid (PutZ w w2 g (x - y)) := ⟨hp.1, hp.2.1, (grown_of_below HN.out.2.2.1 _).trans hp.2.2⟩
  clear hp
  go_wp2_with fail
  go_ret
  exact ⟨rfl, HP.out⟩
end Go.Proofs.Ytkffakekakhgdaa
