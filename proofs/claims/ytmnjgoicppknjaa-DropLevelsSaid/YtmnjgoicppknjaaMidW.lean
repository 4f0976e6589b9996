/- Package stats, the middle: the pairs' sum, Both, Median, walked. No condition but the slice's own size. -/
import Derived.Test.YtmnjgoicppknjaaMidS
import Derived.BigQuiet
import Derived.IntWalk
namespace Go.Proofs.Ytmnjgoicppknjaa
open Go.ChangeShapes Go.WideShapes Go.ChangeAt Go.RowKit
set_option linter.unusedVariables false

set_option maxRecDepth 20000 in
set_option maxHeartbeats 2000000 in
theorem pboth_any (A C : Option Addr) (x y : List Int) (c d : Nat) (w : World) (hx : Seg w w.heap.size A (x.map (.int .i64))) (hy : Seg w w.heap.size C (y.map (.int .i64))) (hl : x.length = y.length) (h4 : x.length ≤ 400) (sx : sall x) (sy : sall y) :
    Calls Try.prog 104 #[.slice A x.length c, .slice C y.length d] w fun e w' => e = .returned (.int .i64 (pbo x y x.length)) ∧ ∃ n, w' = w.drewN n := by
  have HX := Lib.hid hx
  have HY := Lib.hid hy
  have HL := Lib.hid (And.intro hl h4)
  have SX := Lib.hid sx
  have SY := Lib.hid sy
  clear hx hy hl sx sy
  go_enter Try.func104, Try.ntmps104
  go_wp2_with fail
  go_loopw [5, 10] (fun s5 s10 wr => ∃ i m : Nat, i ≤ x.length ∧ s5 = .int .i64 (pbo x y i) ∧ s10 = .int .i64 i ∧ wr = w.drewN m) (fun _ s10 _ => x.length - (intOf s10).toNat)
  case atStart => exact ⟨0, 0, Nat.zero_le _, rfl, rfl, by first | rfl | simp⟩
  case round =>
    obtain ⟨i, m, hi, rfl, rfl, rfl⟩ := hrel
    by_cases hlt : i < x.length
    · have i1 : (i : Int) < (x.length : Int) := by omega
      go_wp2_with fail
      go_loopw [5, 14] (fun s5 s14 wr => ∃ j m : Nat, j ≤ i ∧ s5 = .int .i64 (pbo x y i + pbi x y i j) ∧ s14 = .int .i64 j ∧ wr = w.drewN m) (fun _ s14 _ => i - (intOf s14).toNat)
      case atStart => exact ⟨0, m, Nat.zero_le _, by rw [pbi, Int.add_zero], rfl, rfl⟩
      case round =>
        obtain ⟨j, m, hj, rfl, rfl, rfl⟩ := hrel
        by_cases hjt : j < i
        · have i2 : (j : Int) < (i : Int) := by omega
          have i3 : (j : Int) < (x.length : Int) := by omega
          have hll := HL.out.1
          have i4 : (i : Int) < (y.length : Int) := by omega
          have i5 : (j : Int) < (y.length : Int) := by omega
          obtain ⟨ax, rfl, _, x1⟩ := HX.out.pat hlt
          obtain ⟨ax', e1, _, x2⟩ := HX.out.pat (k := j) (by omega)
          injection e1 with e1; subst e1
          obtain ⟨ay, rfl, _, y1⟩ := HY.out.pat (k := i) (by omega)
          obtain ⟨ay', e1, _, y2⟩ := HY.out.pat (k := j) (by omega)
          injection e1 with e1; subst e1
          have b1 := sall_pat SX.out i
          have b2 := sall_pat SX.out j
          have b3 := sall_pat SY.out i
          have b4 := sall_pat SY.out j
          have b5 := pbt_bd SX.out SY.out i j
          have b6 := pbi_bd SX.out SY.out i j
          have b7 := pbo_bd SX.out SY.out i (by omega)
          have hst : Hid (pbi x y i (j + 1) = pbi x y i j + (pat x i - pat x j) * (pat y i - pat y j)) := rfl
          have v1 : IntKind.i64.wrap (pat x i - pat x j) = pat x i - pat x j := IntWalk.i64_in _ (by omega)
          have v2 : IntKind.i64.wrap (pat y i - pat y j) = pat y i - pat y j := IntWalk.i64_in _ (by omega)
          have v3 : IntKind.i64.wrap ((pat x i - pat x j) * (pat y i - pat y j)) = (pat x i - pat x j) * (pat y i - pat y j) := IntWalk.i64_in _ (by omega)
          have v4 : IntKind.i64.wrap (pbo x y i + pbi x y i j + (pat x i - pat x j) * (pat y i - pat y j)) = pbo x y i + pbi x y i j + (pat x i - pat x j) * (pat y i - pat y j) := IntWalk.i64_in _ (by omega)
          have u1 : wrap64 (pat x i - pat x j) = pat x i - pat x j := by unfold wrap64; omega
          have u2 : wrap64 (pat y i - pat y j) = pat y i - pat y j := by unfold wrap64; omega
          have u3 : wrap64 ((pat x i - pat x j) * (pat y i - pat y j)) = (pat x i - pat x j) * (pat y i - pat y j) := by unfold wrap64; omega
          have u4 : wrap64 (pbo x y i + pbi x y i j + (pat x i - pat x j) * (pat y i - pat y j)) = pbo x y i + pbi x y i j + (pat x i - pat x j) * (pat y i - pat y j) := by unfold wrap64; omega
          have HI4 := Lib.hid hi
          clear b1 b2 b3 b4 b5 b6 b7
          generalize pat x i = p1 at *
          generalize pat x j = p2 at *
          generalize pat y i = p3 at *
          generalize pat y j = p4 at *
          generalize pbo x y i = P at *
          generalize pbi x y i j = Q at *
          generalize hR : (p1 - p2) * (p3 - p4) = R at *
          generalize hD1 : p1 - p2 = D1 at *
          generalize hD2 : p3 - p4 = D2 at *
          go_wp2_with fail
          go_quiet (fail)
          go_wp2_with fail
          go_roundw
          case rel => exact ⟨j + 1, _, by omega, by rw [hst.out, Int.add_assoc], by go_num, rfl⟩
          case measure => simp [intOf]; omega
        · obtain rfl : j = i := by omega
          have hst : Hid (pbo x y (j + 1) = pbo x y j + pbi x y j j) := rfl
          go_wp2_with fail
          go_roundw
          case rel => exact ⟨j + 1, m, by omega, by rw [hst.out], by go_num, rfl⟩
          case measure => simp [intOf]; omega
    · obtain rfl : i = x.length := by omega
      go_wp2_with fail
      go_ret
      exact ⟨rfl, m, rfl⟩
end Go.Proofs.Ytmnjgoicppknjaa
