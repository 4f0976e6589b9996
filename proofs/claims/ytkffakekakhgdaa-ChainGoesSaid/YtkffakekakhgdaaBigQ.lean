/- Whole numbers in memory: their sign, which of two is greater. No condition. -/
import Derived.Test.YtkffakekakhgdaaBigD
namespace Go.Proofs.Ytkffakekakhgdaa
open Go.ChangeShapes Go.WideShapes Go.ChangeAt Go.RowKit

/-- The sign. -/
def sgn (z : Int) : Int := if z = 0 then 0 else if z < 0 then -1 else 1
set_option maxRecDepth 20000 in
set_option maxHeartbeats 2000000 in
theorem sign_any (gx ox : Nat) (z : Int) (w : World) (hx : IntZ w gx ox z) :
    Calls Try.prog 84 #[.pointer (some ⟨gx, ox, none⟩)] w fun e w' => e = .returned (.int .i64 (sgn z)) ∧ w = w' := by
  obtain ⟨b, ds, ⟨tx, cx, Ax, capx, hbx, _, hx0, hx1, hcx, hmx, hdx⟩, hz⟩ := hx
  have c0 := hbx.cell ox hx0
  have c1 := hbx.cell (ox + 1) hx1
  have l0 := dv_zero hz.2.1
  have l1 := hz.abs
  have l2 := hz.neg_iff
  by_cases h0 : ds.length = 0
  · have hf : Hid (sgn z = 0) := if_pos (by have := l0.2 h0; omega)
    have d1 : ((ds.length : Int) == 0) = true := by rw [h0]; rfl
    clear hbx hx0 hx1 hcx hmx hdx hz l0 l1 l2 h0
    go_enter Try.func84, Try.ntmps84
    go_wp2_with fail
    go_ret
    exact ⟨ret_bi hf.out.symm, rfl⟩
  · have d1 : ((ds.length : Int) == 0) = false := by rw [beq_eq_false_iff_ne]; omega
    have hz0 : z ≠ 0 := fun h => h0 (l0.1 (by omega))
    cases b with
    | true =>
      have hf : Hid (sgn z = -1) := by unfold Hid sgn; rw [if_neg hz0, if_pos (of_decide_eq_true l2.symm)]
      clear hbx hx0 hx1 hcx hmx hdx hz l0 l1 l2 h0 hz0
      go_enter Try.func84, Try.ntmps84
      go_wp2_with fail
      go_ret
      exact ⟨ret_bi hf.out.symm, rfl⟩
    | false =>
      have hf : Hid (sgn z = 1) := by unfold Hid sgn; rw [if_neg hz0, if_neg (of_decide_eq_false l2.symm)]
      clear hbx hx0 hx1 hcx hmx hdx hz l0 l1 l2 h0 hz0
      go_enter Try.func84, Try.ntmps84
      go_wp2_with fail
      go_ret
      exact ⟨ret_bi hf.out.symm, rfl⟩

theorem cmpZ_of {bx by_ : Bool} {xs ys : List Nat} {x y : Int} (hx : IsZ bx xs x) (hy : IsZ by_ ys y) : cmpZ x y = if bx = by_ then (if bx = true then cmpN (dv ys) (dv xs) else cmpN (dv xs) (dv ys)) else if bx = true then -1 else 1 := by
  have h1 := hx.2.2.2
  have h2 := hy.2.2.2
  have n1 := hx.neg_iff
  have n2 := hy.neg_iff
  unfold cmpZ cmpN
  cases bx <;> cases by_ <;> simp only [if_true, if_false, reduceCtorEq, Bool.false_eq_true] at h1 h2 ⊢
  · repeat' split
    all_goals omega
  · have := of_decide_eq_false n1.symm; have := of_decide_eq_true n2.symm; repeat' split
    all_goals omega
  · have := of_decide_eq_true n1.symm; have := of_decide_eq_false n2.symm; repeat' split
    all_goals omega
  · repeat' split
    all_goals omega
set_option maxRecDepth 20000 in
set_option maxHeartbeats 2000000 in
theorem cmp_any (gx ox gy oy : Nat) (x y : Int) (w : World) (hx : IntZ w gx ox x) (hy : IntZ w gy oy y) :
    Calls Try.prog 55 #[.pointer (some ⟨gx, ox, none⟩), .pointer (some ⟨gy, oy, none⟩)] w fun e w' => e = .returned (.int .i64 (cmpZ x y)) ∧ ∃ m, w' = w.drewN m := by
  obtain ⟨bx, xs, ax, zx⟩ := hx
  obtain ⟨by_, ys, ay, zy⟩ := hy
  have HE := Lib.hid (cmpZ_of zx zy)
  have AX := Lib.hid ax
  have AY := Lib.hid ay
  obtain ⟨tx, cx, Ax, capx, hbx, _, hx0, hx1, hcx, hmx, hdx⟩ := ax
  obtain ⟨ty, cy, Ay, capy, hby, _, hy0, hy1, hcy, hmy, hdy⟩ := ay
  have c0 := hbx.cell ox hx0
  have c1 := hby.cell oy hy0
  have HZ : Hid (dok xs ∧ dnorm xs ∧ dok ys ∧ dnorm ys) := ⟨zx.1, zx.2.1, zy.1, zy.2.1⟩
  clear hbx hx0 hx1 hcx hmx hdx hby hy0 hy1 hcy hmy hdy zx zy
  cases bx <;> cases by_
  · have hf : Hid (cmpZ x y = cmpN (dv xs) (dv ys)) := HE.out
    clear HE
    go_enter Try.func55, Try.ntmps55
    go_wp2_with fail
    go_quiet (fail)
    go_wp2_with fail
    refine (cmpAbs_any _ _ _ _ _ _ xs ys _ (AX.out.drewN _) (AY.out.drewN _) HZ.out.1 HZ.out.2.1 HZ.out.2.2.1 HZ.out.2.2.2).mono ?_
    rintro e w1 ⟨rfl, m, rfl⟩
    go_wp2_with fail
    go_ret
    exact ⟨ret_bi hf.out.symm, _, rfl⟩
  · have hf : Hid (cmpZ x y = 1) := HE.out
    clear HE
    go_enter Try.func55, Try.ntmps55
    go_wp2_with fail
    go_quiet (fail)
    go_wp2_with fail
    go_ret
    exact ⟨ret_bi hf.out.symm, _, rfl⟩
  · have hf : Hid (cmpZ x y = -1) := HE.out
    clear HE
    go_enter Try.func55, Try.ntmps55
    go_wp2_with fail
    go_quiet (fail)
    go_wp2_with fail
    go_ret
    exact ⟨ret_bi hf.out.symm, _, rfl⟩
  · have hf : Hid (cmpZ x y = cmpN (dv ys) (dv xs)) := HE.out
    clear HE
    go_enter Try.func55, Try.ntmps55
    go_wp2_with fail
    go_quiet (fail)
    go_wp2_with fail
    refine (cmpAbs_any _ _ _ _ _ _ ys xs _ (AY.out.drewN _) (AX.out.drewN _) HZ.out.2.2.1 HZ.out.2.2.2 HZ.out.1 HZ.out.2.1).mono ?_
    rintro e w1 ⟨rfl, m, rfl⟩
    go_wp2_with fail
    go_ret
    exact ⟨ret_bi hf.out.symm, _, rfl⟩
end Go.Proofs.Ytkffakekakhgdaa
