/- Whole numbers in memory: as a machine's number, if they fit. No condition. -/
import Derived.Test.YtaehehoeidnidaaBigE
namespace Go.Proofs.Ytaehehoeidnidaa
open Go.ChangeShapes Go.WideShapes Go.ChangeAt Go.RowKit

set_option maxRecDepth 20000 in
set_option maxHeartbeats 2000000 in
theorem int64_any (gx ox : Nat) (z : Int) (w : World) (hx : IntZ w gx ox z) (h1 : -9223372036854775808 ≤ z) (h2 : z ≤ 9223372036854775807) :
    Calls Try.prog 110 #[.pointer (some ⟨gx, ox, none⟩)] w fun e w' => e = .returned (.int .i64 z) ∧ w = w' := by
  have HX := Lib.hid hx
  obtain ⟨b, ds, ⟨tx, cx, Ax, capx, hbx, _, hx0, hx1, hcx, hmx, hdx⟩, hz⟩ := hx
  have c0 := hbx.cell ox hx0
  have hn := hz.neg_iff
  clear hbx hx0 hx1 hcx hmx hdx hz
  cases b with
  | true =>
    have hz := of_decide_eq_true hn.symm
    obtain ⟨n, rfl⟩ : ∃ n : Nat, z = -(n : Int) := ⟨z.natAbs, by omega⟩
    have e1 : ((-(n : Int)).natAbs % 18446744073709551616 : Nat) = n := by omega
    have HE : Hid (IntKind.i64.wrap (-IntKind.i64.wrap (n : Int)) = -(n : Int)) := by unfold Hid; simp [IntKind.wrap, IntKind.bits, IntKind.signed]; omega
    clear hn hz
    go_enter Try.func110, Try.ntmps110
    go_wp2_with fail
    refine (uint64_any _ _ _ _ HX.out).mono ?_
    rintro e w' ⟨rfl, rfl⟩
    rw [e1]
    clear e1
    have e2 := HE.out
    go_wp2_with fail
    go_ret
    first | exact ⟨rfl, rfl⟩ | exact ⟨ret_bi (by simp [wrap64]; omega), rfl⟩
  | false =>
    have hz := of_decide_eq_false hn.symm
    obtain ⟨n, rfl⟩ : ∃ n : Nat, z = (n : Int) := ⟨z.natAbs, by omega⟩
    have e1 : ((n : Int).natAbs % 18446744073709551616 : Nat) = n := by omega
    have e2 : IntKind.i64.wrap (n : Int) = (n : Int) := IntWalk.i64_in _ (by omega)
    clear hn hz
    go_enter Try.func110, Try.ntmps110
    go_wp2_with fail
    refine (uint64_any _ _ _ _ HX.out).mono ?_
    rintro e w' ⟨rfl, rfl⟩
    rw [e1]
    clear e1
    go_wp2_with fail
    go_ret
    exact ⟨rfl, rfl⟩
end Go.Proofs.Ytaehehoeidnidaa
