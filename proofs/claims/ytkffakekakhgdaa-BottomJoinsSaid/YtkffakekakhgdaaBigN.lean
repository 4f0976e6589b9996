/- Whole numbers in memory: the other sign, no sign, one bit. No condition. -/
import Derived.Test.YtkffakekakhgdaaBigE
namespace Go.Proofs.Ytkffakekakhgdaa
open Go.ChangeShapes Go.WideShapes Go.ChangeAt Go.RowKit

theorem SetOut.put {w w' : World} {g : Nat} {x y : Value} {b : Bool} {ds : List Nat} (h : SetOut w w' g 0 tI #[x, y] b ds) : ∃ A c, Blk w' g tI #[.bool b, .slice A ds.length c] ∧ ds.length ≤ c ∧ ds.length ≤ capMax ∧ Digs w' A ds ∧ w.grownBy w' (some g) := h
theorem setZ_any (g gx ox : Nat) (z : Int) (w : World) (hg : IntBlk w g) (hx : IntZ w gx ox z) :
    Calls Try.prog 85 #[.pointer (some ⟨g, 0, none⟩), .pointer (some ⟨gx, ox, none⟩)] w fun e w' => e = .returned (.pointer (some ⟨g, 0, none⟩)) ∧ PutZ w w' g z := by
  obtain ⟨x, y, hb⟩ := hg
  obtain ⟨b, ds, ha, hz⟩ := hx
  refine (set_any g 0 gx ox tI #[x, y] b ds w hb tI_ne (show 1 < 2 by decide) ha).mono ?_
  rintro e w' ⟨rfl, h⟩
  obtain ⟨A, c, h1, h2, h3, h4, h5⟩ := h.put
  exact ⟨rfl, IntZ.shut h1 h2 h3 h4 hz, ⟨_, _, h1⟩, h5⟩

theorem IsZ.neg {b : Bool} {ds : List Nat} {z : Int} (h : IsZ b ds z) : IsZ (!b && decide (0 < ds.length)) ds (-z) := by
  have h0 := dv_zero h.2.1
  have h1 := h.2.2.2
  refine ⟨h.1, h.2.1, fun hh => ?_, ?_⟩
  · rw [Bool.and_eq_true, decide_eq_true_iff] at hh; omega
  · cases b
    · rw [if_neg (by decide)] at h1
      by_cases hl : 0 < ds.length
      · rw [decide_eq_true hl, if_pos (by rfl)]; omega
      · rw [decide_eq_false hl, if_neg (by decide)]; have := h0.2 (by omega); omega
    · rw [if_pos rfl] at h1
      rw [if_neg (by simp)]; omega
theorem IsZ.abs_ {b : Bool} {ds : List Nat} {z : Int} (h : IsZ b ds z) : IsZ false ds (z.natAbs : Int) :=
  ⟨h.1, h.2.1, (fun hh => by cases hh), by rw [if_neg (by decide), h.abs]⟩

set_option maxRecDepth 20000 in
set_option maxHeartbeats 2000000 in
theorem neg_any (g gx ox : Nat) (z : Int) (w : World) (hg : IntBlk w g) (hx : IntZ w gx ox z) :
    Calls Try.prog 107 #[.pointer (some ⟨g, 0, none⟩), .pointer (some ⟨gx, ox, none⟩)] w fun e w' => e = .returned (.pointer (some ⟨g, 0, none⟩)) ∧ PutZ w w' g (-z) := by
  obtain ⟨x, y, hb⟩ := hg
  obtain ⟨b, ds, ha, hz⟩ := hx
  have HB := Lib.hid hb
  have HA := Lib.hid ha
  have HZ := Lib.hid hz
  clear hb ha hz
  go_enter Try.func107, Try.ntmps107
  go_wp2_with fail
  refine (set_any g 0 gx ox tI #[x, y] b ds w HB.out tI_ne (show 1 < 2 by decide) HA.out).mono ?_
  rintro e w1 ⟨rfl, h⟩
  obtain ⟨A, c, h1, h2, h3, h4, h5⟩ := h.put
  have c0 := h1.cell 0 (u := .bool b) rfl
  have c1 := h1.cell 1 (u := .slice A ds.length c) rfl
  have f0 := h1.frozen 0
  have H1 := Lib.hid h1
  have H4 := Lib.hid h4
  have H5 := Lib.hid h5
  have H3 := Lib.hid h3
  have HN := Lib.hid HZ.out.neg
  clear h h1 h3 h4 h5
  cases b with
  | true =>
    go_wp2_with fail
    go_ret
    have hb2 : Blk (w1.setCell ⟨g, 0, none⟩ (.bool false)) g tI #[.bool false, .slice A ds.length c] := H1.out.set_ 0 _
    exact ⟨rfl, IntZ.shut hb2 h2 H3.out (H4.out.far H1.out tI_ne 0 _) HN.out, ⟨_, _, hb2⟩, H5.out.trans (setCell_grown _ _ _ _)⟩
  | false =>
    by_cases hl : 0 < ds.length
    · have d1 : decide (0 < (ds.length : Int)) = true := decide_eq_true (by omega)
      have d2 : decide (0 < ds.length) = true := decide_eq_true hl
      rw [d2] at HN
      go_wp2_with fail
      go_ret
      have hb2 : Blk (w1.setCell ⟨g, 0, none⟩ (.bool true)) g tI #[.bool true, .slice A ds.length c] := H1.out.set_ 0 _
      exact ⟨rfl, IntZ.shut hb2 h2 H3.out (H4.out.far H1.out tI_ne 0 _) HN.out, ⟨_, _, hb2⟩, H5.out.trans (setCell_grown _ _ _ _)⟩
    · have d1 : decide (0 < (ds.length : Int)) = false := decide_eq_false (by omega)
      have d2 : decide (0 < ds.length) = false := decide_eq_false hl
      rw [d2] at HN
      go_wp2_with fail
      go_ret
      have hb2 : Blk (w1.setCell ⟨g, 0, none⟩ (.bool false)) g tI #[.bool false, .slice A ds.length c] := H1.out.set_ 0 _
      exact ⟨rfl, IntZ.shut hb2 h2 H3.out (H4.out.far H1.out tI_ne 0 _) HN.out, ⟨_, _, hb2⟩, H5.out.trans (setCell_grown _ _ _ _)⟩
end Go.Proofs.Ytkffakekakhgdaa
