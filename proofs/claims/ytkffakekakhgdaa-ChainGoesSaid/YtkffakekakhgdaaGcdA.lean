/- Whole numbers in memory: without its sign; the two quotients, walked. No condition but the size. -/
import Derived.Test.YtkffakekakhgdaaDivB
import Derived.Test.YtkffakekakhgdaaBigN
namespace Go.Proofs.Ytkffakekakhgdaa
open Go.ChangeShapes Go.WideShapes Go.ChangeAt Go.RowKit
set_option linter.unusedVariables false

set_option maxRecDepth 20000 in
set_option maxHeartbeats 2000000 in
theorem abs_any (g gx ox : Nat) (z : Int) (w : World) (hg : IntBlk w g) (hx : IntZ w gx ox z) :
    Calls Try.prog 83 #[.pointer (some ⟨g, 0, none⟩), .pointer (some ⟨gx, ox, none⟩)] w fun e w' => e = .returned (.pointer (some ⟨g, 0, none⟩)) ∧ PutZ w w' g (z.natAbs : Int) := by
  obtain ⟨x, y, hb⟩ := hg
  obtain ⟨b, ds, ha, hz⟩ := hx
  have HB := Lib.hid hb
  have HA := Lib.hid ha
  have HN := Lib.hid hz.abs_
  clear hb ha hz
  go_enter Try.func83, Try.ntmps83
  go_wp2_with fail
  refine (set_any g 0 gx ox tI #[x, y] b ds w HB.out tI_ne (show 1 < 2 by decide) HA.out).mono ?_
  rintro e w1 ⟨rfl, h⟩
  obtain ⟨A, c, h1, h2, h3, h4, h5⟩ := h.put
  have c0 := h1.cell 0 (u := .bool b) rfl
  have f0 := h1.frozen 0
  have H1 := Lib.hid h1
  have H4 := Lib.hid h4
  have H5 := Lib.hid h5
  have H3 := Lib.hid h3
  clear h h1 h3 h4 h5
  go_wp2_with fail
  go_ret
  have hb2 : Blk (w1.setCell ⟨g, 0, none⟩ (.bool false)) g tI #[.bool false, .slice A ds.length c] := H1.out.set_ 0 _
  exact ⟨rfl, IntZ.shut hb2 h2 H3.out (H4.out.far H1.out tI_ne 0 _) HN.out, ⟨_, _, hb2⟩, H5.out.trans (setCell_grown _ _ _ _)⟩
set_option maxRecDepth 20000 in
set_option maxHeartbeats 4000000 in
theorem quo_any (g gx ox gy oy : Nat) (x y : Int) (L : Nat) (w : World) (hg : IntBlk w g) (hx : IntZ w gx ox x) (hy : IntZ w gy oy y) (h0 : y ≠ 0) (fx : Fits x L) (hL : L < 8796093022207) :
    Calls Try.prog 106 #[.pointer (some ⟨g, 0, none⟩), .pointer (some ⟨gx, ox, none⟩), .pointer (some ⟨gy, oy, none⟩)] w fun e w' => e = .returned (.pointer (some ⟨g, 0, none⟩)) ∧ PutZ w w' g (x.tdiv y) := by
  have HG := Lib.hid hg
  have HX := Lib.hid hx
  have HY := Lib.hid hy
  have hne : g ≠ w.heap.size := Nat.ne_of_lt hg.lt
  clear hg hx hy
  go_enter Try.func106, Try.ntmps106
  go_wp2_with fail
  refine (quorem_any g w.heap.size gx ox gy oy x y L _ (HG.out.alloc _) (newBlk _ _ _) hne (HX.out.alloc _) (HY.out.alloc _) h0 fx hL).mono ?_
  rintro e w1 ⟨rfl, hq⟩
  have HQ := Lib.hid hq
  clear hq
  go_wp2_with fail
  go_ret
  exact ⟨rfl, HQ.out.1, HQ.out.2.2.1, Two.grown' HQ.out.2.2.2.2 ((Below.refl _ _).alloc (Nat.le_refl _) _) (Nat.le_refl _)⟩
end Go.Proofs.Ytkffakekakhgdaa
