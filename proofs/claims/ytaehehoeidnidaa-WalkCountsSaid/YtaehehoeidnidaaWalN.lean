/- The law WalkCounts: the closures that say what is wanted. No condition. -/
import Derived.Test.YtaehehoeidnidaaWalM
import Derived.Deep.RegionWith
namespace Go.Proofs.Ytaehehoeidnidaa
open Go.ChangeShapes Go.WideShapes Go.ChangeAt Go.RowKit Go.Maps
set_option linter.unusedVariables false

theorem cell_keep {w w' : World} {B : Nat} {v : Value} (h : w.cell? ⟨B, 0, none⟩ = some v) (hlt : B < w.heap.size) (hb : Below w.heap.size w w') : w'.cell? ⟨B, 0, none⟩ = some v := (hb.cell hlt).trans h
set_option maxRecDepth 20000 in
set_option maxHeartbeats 1000000 in
theorem want_free (Bn Ba Bt N : Nat) (tt : Int) (w : World) (c0 : w.cell? ⟨Bn, 0, none⟩ = some (.int .i64 N)) (c1 : w.cell? ⟨Ba, 0, none⟩ = some (.func (.func 21) #[] #[])) (c2 : w.cell? ⟨Bt, 0, none⟩ = some (.int .i64 tt)) (hlt : Bt < w.heap.size) (hN : N ≤ 56) (ht : -100 ≤ tt ∧ tt ≤ 100) :
    Calls Try.prog 23 (#[] ++ #[.pointer (some ⟨Bn, 0, none⟩), .pointer (some ⟨Ba, 0, none⟩), .pointer (some ⟨Bt, 0, none⟩)]) w fun e w2 => e = .returned (.int .i64 (wN mAll 0 N tt)) ∧ Below w.heap.size w w2 := by
  change Calls _ _ #[.pointer (some ⟨Bn, 0, none⟩), .pointer (some ⟨Ba, 0, none⟩), .pointer (some ⟨Bt, 0, none⟩)] _ _
  have HN := Lib.hid hN
  have HL := Lib.hid hlt
  have HC := Lib.hid c2
  have HWF : Hid ((Lit.int .i64 tt).wf = true) := WalkArith.wf_i64 (by omega)
  have KQ := Lib.hid (qways_any 21 #[] mAll N 0 w.drew ent_2 hN (by omega) (fun s h w' _ _ _ _ => may_all s h w'))
  clear hN ht hlt
  go_enter Try.func23, Try.ntmps23
  go_wp2_with fail
  go_region_with (go_at_call 24; refine KQ.out.mono ?_; rintro e w1 ⟨b, n, F, rfl, hm, hF, hb⟩; have hlk := hm.look Try.underlying39 HWF.out; rw [hF] at hlk; have d2 : w1.cell? ⟨Bt, 0, none⟩ = some (.int .i64 tt) := (hb.cell HL.out).trans HC.out; have HB : Hid (Below w.heap.size w w1) := ((Below.refl _ _).drew).trans hb; clear hm hF hb)
  all_goals go_wp2_with fail
  all_goals go_ret
  all_goals exact ⟨rfl, HB.out⟩
set_option maxRecDepth 20000 in
set_option maxHeartbeats 1000000 in
theorem want_above (Bn Bf Bt N : Nat) (fr tt : Int) (w : World) (c0 : w.cell? ⟨Bn, 0, none⟩ = some (.int .i64 N)) (c1 : w.cell? ⟨Bf, 0, none⟩ = some (.int .i64 fr)) (c2 : w.cell? ⟨Bt, 0, none⟩ = some (.int .i64 tt)) (hlt : Bt < w.heap.size) (hN : N ≤ 56) (hf : -100 ≤ fr ∧ fr ≤ 100) (ht : -100 ≤ tt ∧ tt ≤ 100) :
    Calls Try.prog 25 (#[] ++ #[.pointer (some ⟨Bn, 0, none⟩), .pointer (some ⟨Bf, 0, none⟩), .pointer (some ⟨Bt, 0, none⟩)]) w fun e w2 => e = .returned (.int .i64 (wN mPos fr N tt)) ∧ Below w.heap.size w w2 := by
  change Calls _ _ #[.pointer (some ⟨Bn, 0, none⟩), .pointer (some ⟨Bf, 0, none⟩), .pointer (some ⟨Bt, 0, none⟩)] _ _
  have HN := Lib.hid hN
  have HL := Lib.hid hlt
  have HC := Lib.hid c2
  have HWF : Hid ((Lit.int .i64 tt).wf = true) := WalkArith.wf_i64 (by omega)
  have KQ := Lib.hid (qways_any 26 #[] mPos N fr w.drew ent_4_1 hN hf (fun s h w' _ _ _ _ => may_pos s h w'))
  clear hN ht hlt hf
  go_enter Try.func25, Try.ntmps25
  go_wp2_with fail
  go_region_with (go_at_call 24; refine KQ.out.mono ?_; rintro e w1 ⟨b, n, F, rfl, hm, hF, hb⟩; have hlk := hm.look Try.underlying39 HWF.out; rw [hF] at hlk; have d2 : w1.cell? ⟨Bt, 0, none⟩ = some (.int .i64 tt) := (hb.cell HL.out).trans HC.out; have HB : Hid (Below w.heap.size w w1) := ((Below.refl _ _).drew).trans hb; clear hm hF hb)
  all_goals go_wp2_with fail
  all_goals go_ret
  all_goals exact ⟨rfl, HB.out⟩
set_option maxRecDepth 20000 in
set_option maxHeartbeats 1000000 in
theorem want_in (Bn Bf Bp Bt N : Nat) (fr tp tt : Int) (w : World) (c0 : w.cell? ⟨Bn, 0, none⟩ = some (.int .i64 N)) (c1 : w.cell? ⟨Bf, 0, none⟩ = some (.int .i64 fr)) (c3 : w.cell? ⟨Bp, 0, none⟩ = some (.int .i64 tp)) (hlp : Bp < w.heap.size) (c2 : w.cell? ⟨Bt, 0, none⟩ = some (.int .i64 tt)) (hlt : Bt < w.heap.size) (hN : N ≤ 56) (hf : -100 ≤ fr ∧ fr ≤ 100) (ht : -100 ≤ tt ∧ tt ≤ 100) :
    Calls Try.prog 27 (#[] ++ #[.pointer (some ⟨Bn, 0, none⟩), .pointer (some ⟨Bf, 0, none⟩), .pointer (some ⟨Bp, 0, none⟩), .pointer (some ⟨Bt, 0, none⟩)]) w fun e w2 => e = .returned (.int .i64 (wN (mIn tp) fr N tt)) ∧ Below w.heap.size w w2 := by
  change Calls _ _ #[.pointer (some ⟨Bn, 0, none⟩), .pointer (some ⟨Bf, 0, none⟩), .pointer (some ⟨Bp, 0, none⟩), .pointer (some ⟨Bt, 0, none⟩)] _ _
  have HN := Lib.hid hN
  have HL := Lib.hid hlt
  have HC := Lib.hid c2
  have HWF : Hid ((Lit.int .i64 tt).wf = true) := WalkArith.wf_i64 (by omega)
  have KQ := Lib.hid (qways_any 28 #[.pointer (some ⟨Bp, 0, none⟩)] (mIn tp) N fr w.drew ent_5_1 hN hf (fun s h w' _ _ _ hb => may_in Bp tp s h w' (cell_keep (w := w.drew) c3 hlp hb)))
  clear hN ht hlt hf hlp c3
  go_enter Try.func27, Try.ntmps27
  go_wp2_with fail
  go_region_with (go_at_call 24; refine KQ.out.mono ?_; rintro e w1 ⟨b, n, F, rfl, hm, hF, hb⟩; have hlk := hm.look Try.underlying39 HWF.out; rw [hF] at hlk; have d2 : w1.cell? ⟨Bt, 0, none⟩ = some (.int .i64 tt) := (hb.cell HL.out).trans HC.out; have HB : Hid (Below w.heap.size w w1) := ((Below.refl _ _).drew).trans hb; clear hm hF hb)
  all_goals go_wp2_with fail
  all_goals go_ret
  all_goals exact ⟨rfl, HB.out⟩
end Go.Proofs.Ytaehehoeidnidaa
