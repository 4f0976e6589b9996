/- The law WalkCounts: the closures that say what is wanted, on. No condition. -/
import Derived.Test.YtaehehoeidnidaaWalM
namespace Go.Proofs.Ytaehehoeidnidaa
open Go.ChangeShapes Go.WideShapes Go.ChangeAt Go.RowKit Go.Maps
set_option linter.unusedVariables false

theorem cell_keep2 {w w' : World} {B : Nat} {v : Value} (h : w.cell? ⟨B, 0, none⟩ = some v) (hlt : B < w.heap.size) (hb : Below w.heap.size w w') : w'.cell? ⟨B, 0, none⟩ = some v := (hb.cell hlt).trans h
set_option maxRecDepth 20000 in
set_option maxHeartbeats 1000000 in
theorem want_first (Bn N : Nat) (w : World) (c0 : w.cell? ⟨Bn, 0, none⟩ = some (.int .i64 N)) (hlt : Bn < w.heap.size) (hN : N ≤ 56) :
    Calls Try.prog 29 (#[] ++ #[.pointer (some ⟨Bn, 0, none⟩)]) w fun e w2 => e = .returned (.int .i64 (if N = 0 then 0 else wN (mFirst N) 0 N 0)) ∧ Below w.heap.size w w2 := by
  change Calls _ _ #[.pointer (some ⟨Bn, 0, none⟩)] _ _
  by_cases h0 : N = 0
  · subst h0
    go_enter Try.func29, Try.ntmps29
    go_wp2_with fail
    go_ret
    exact ⟨rfl, Below.refl _ _⟩
  · have HV : Hid ((if N = 0 then (0 : Int) else wN (mFirst N) 0 N 0) = wN (mFirst N) 0 N 0) := if_neg h0
    have KQ := Lib.hid (qways_any 30 #[.pointer (some ⟨Bn, 0, none⟩)] (mFirst N) N 0 w ent_6_1 hN (by omega) (fun s h w' _ _ _ hb => may_first Bn N s h w' (cell_keep2 c0 hlt hb)))
    have i1 : ¬ (N : Int) = 0 := by omega
    clear hlt hN
    go_enter Try.func29, Try.ntmps29
    go_wp2_with fail
    refine KQ.out.mono ?_
    rintro e w1 ⟨b, n, F, rfl, hm, hF, hb⟩
    have hlk := hm.look Try.underlying39 (x := 0) (by decide)
    rw [hF] at hlk
    have HB := Lib.hid hb
    clear hm hF hb
    go_wp2_with fail
    go_ret
    exact ⟨rfl, HB.out⟩
set_option maxRecDepth 20000 in
set_option maxHeartbeats 1000000 in
theorem want_catalan (Bn N : Nat) (w : World) (c0 : w.cell? ⟨Bn, 0, none⟩ = some (.int .i64 N)) (hN : N ≤ 28) :
    Calls Try.prog 31 (#[] ++ #[.pointer (some ⟨Bn, 0, none⟩)]) w fun e w2 => e = .returned (.int .i64 (wN mNn 0 (2 * N) 0)) ∧ Below w.heap.size w w2 := by
  change Calls _ _ #[.pointer (some ⟨Bn, 0, none⟩)] _ _
  have hq := qways_any 32 #[] mNn (2 * N) 0 w ent_7_1 (by omega) (by omega) (fun s h w' _ _ _ _ => may_nn s h w')
  rw [show ((2 * N : Nat) : Int) = 2 * (N : Int) by omega] at hq
  have KQ := Lib.hid hq
  clear hq
  go_enter Try.func31, Try.ntmps31
  go_wp2_with fail
  refine KQ.out.mono ?_
  rintro e w1 ⟨b, n, F, rfl, hm, hF, hb⟩
  have hlk := hm.look Try.underlying39 (x := 0) (by decide)
  rw [hF] at hlk
  have HB := Lib.hid hb
  clear hm hF hb
  go_wp2_with fail
  go_ret
  exact ⟨rfl, HB.out⟩
end Go.Proofs.Ytaehehoeidnidaa
