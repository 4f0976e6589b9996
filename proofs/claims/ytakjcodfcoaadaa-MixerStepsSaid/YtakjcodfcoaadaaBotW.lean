/- bottom.Mix, unshift, inverse and Unmix walked. No condition. -/
import Derived.Test.YtakjcodfcoaadaaBotM
import Derived.RegionTactic
import Derived.ChangeAlike
namespace Go.Proofs.Ytakjcodfcoaadaa
open Go.ChangeShapes Go.WideShapes Go.ChangeAt Go.RowKit
set_option linter.unusedVariables false

theorem mix_any (x : BitVec 64) (w : World) :
    Calls Try.prog 9 #[W64 x] w fun e w' => e = .returned (W64 (bmix x)) ∧ w = w' := by
  have s30 := fun y => wv_shr y 30 (n := 1073741824) rfl
  have s27 := fun y => wv_shr y 27 (n := 134217728) rfl
  have s31 := fun y => wv_shr y 31 (n := 2147483648) rfl
  have m1 := fun y => wv_mul_lit y 13787848793156543929#64 (n := 13787848793156543929) rfl
  have m2 := fun y => wv_mul_lit y 10723151780598845931#64 (n := 10723151780598845931) rfl
  have hx := wv_xor
  have HM : Hid (bmix x = mstep (mstep x 30 13787848793156543929#64) 27 10723151780598845931#64 ^^^ (mstep (mstep x 30 13787848793156543929#64) 27 10723151780598845931#64 >>> 31)) := by
    unfold Hid bmix; rw [show ∀ y, mstep y 31 1#64 = y ^^^ (y >>> 31) from fun y => by unfold mstep; rw [BitVec.mul_one]]
  go_enter Try.func9, Try.ntmps9
  go_wp2_with fail
  go_ret
  exact ⟨by rw [HM.out]; rfl, rfl⟩
theorem unshift31 (x : BitVec 64) (w : World) :
    Calls Try.prog 41 #[W64 x, .int .i64 31] w fun e w' => e = .returned (W64 (ush x 31 3)) ∧ w = w' := by
  have hs := fun y => wv_shr y 31 (n := 2147483648) rfl
  have hx := wv_xor
  go_enter Try.func41, Try.ntmps41
  go_wp2_with fail
  go_loop [5, 10] (fun y i => ∃ j : Nat, j ≤ 3 ∧ i = .int .i64 j ∧ y = W64 (ush x 31 j)) (fun _ i => 3 - (intOf i).toNat)
  case atStart => exact ⟨0, by decide, rfl, rfl⟩
  case round =>
    obtain ⟨j, hj, rfl, rfl⟩ := hrel
    have HB : Hid (ush x 31 (j + 1) = x ^^^ (ush x 31 j >>> 31)) := rfl
    by_cases hlt : j < 3
    · have i1 : (j : Int) < 3 := by omega
      generalize ush x 31 j = y at *
      go_wp2_with fail
      go_round
      case rel => exact ⟨j + 1, by omega, by go_num, by rw [HB.out]⟩
      case measure => simp [intOf]; omega
    · have hje : Hid (j = 3) := by unfold Hid; omega
      have i1 : ¬ (j : Int) < 3 := by omega
      go_wp2_with fail
      go_ret
      exact ⟨by rw [hje.out]; rfl, rfl⟩
theorem unshift27 (x : BitVec 64) (w : World) :
    Calls Try.prog 41 #[W64 x, .int .i64 27] w fun e w' => e = .returned (W64 (ush x 27 3)) ∧ w = w' := by
  have hs := fun y => wv_shr y 27 (n := 134217728) rfl
  have hx := wv_xor
  go_enter Try.func41, Try.ntmps41
  go_wp2_with fail
  go_loop [5, 10] (fun y i => ∃ j : Nat, j ≤ 3 ∧ i = .int .i64 j ∧ y = W64 (ush x 27 j)) (fun _ i => 3 - (intOf i).toNat)
  case atStart => exact ⟨0, by decide, rfl, rfl⟩
  case round =>
    obtain ⟨j, hj, rfl, rfl⟩ := hrel
    have HB : Hid (ush x 27 (j + 1) = x ^^^ (ush x 27 j >>> 27)) := rfl
    by_cases hlt : j < 3
    · have i1 : (j : Int) < 3 := by omega
      generalize ush x 27 j = y at *
      go_wp2_with fail
      go_round
      case rel => exact ⟨j + 1, by omega, by go_num, by rw [HB.out]⟩
      case measure => simp [intOf]; omega
    · have hje : Hid (j = 3) := by unfold Hid; omega
      have i1 : ¬ (j : Int) < 3 := by omega
      go_wp2_with fail
      go_ret
      exact ⟨by rw [hje.out]; rfl, rfl⟩
theorem unshift30 (x : BitVec 64) (w : World) :
    Calls Try.prog 41 #[W64 x, .int .i64 30] w fun e w' => e = .returned (W64 (ush x 30 3)) ∧ w = w' := by
  have hs := fun y => wv_shr y 30 (n := 1073741824) rfl
  have hx := wv_xor
  go_enter Try.func41, Try.ntmps41
  go_wp2_with fail
  go_loop [5, 10] (fun y i => ∃ j : Nat, j ≤ 3 ∧ i = .int .i64 j ∧ y = W64 (ush x 30 j)) (fun _ i => 3 - (intOf i).toNat)
  case atStart => exact ⟨0, by decide, rfl, rfl⟩
  case round =>
    obtain ⟨j, hj, rfl, rfl⟩ := hrel
    have HB : Hid (ush x 30 (j + 1) = x ^^^ (ush x 30 j >>> 30)) := rfl
    by_cases hlt : j < 3
    · have i1 : (j : Int) < 3 := by omega
      generalize ush x 30 j = y at *
      go_wp2_with fail
      go_round
      case rel => exact ⟨j + 1, by omega, by go_num, by rw [HB.out]⟩
      case measure => simp [intOf]; omega
    · have hje : Hid (j = 3) := by unfold Hid; omega
      have i1 : ¬ (j : Int) < 3 := by omega
      go_wp2_with fail
      go_ret
      exact ⟨by rw [hje.out]; rfl, rfl⟩
theorem inverse_any (a : BitVec 64) (w : World) :
    Calls Try.prog 42 #[W64 a] w fun e w' => e = .returned (W64 (binv a 6)) ∧ w = w' := by
  have hs : ∀ y, IntKind.u64.wrap (2 - wv y) = wv (2#64 - y) := fun y => wv_sub 2#64 y
  have hm := wv_mul
  go_enter Try.func42, Try.ntmps42
  go_wp2_with fail
  go_loop [3, 5] (fun y i => ∃ j : Nat, j ≤ 6 ∧ i = .int .i64 j ∧ y = W64 (binv a j)) (fun _ i => 6 - (intOf i).toNat)
  case atStart => exact ⟨0, by decide, rfl, rfl⟩
  case round =>
    obtain ⟨j, hj, rfl, rfl⟩ := hrel
    have HB : Hid (binv a (j + 1) = binv a j * (2#64 - a * binv a j)) := rfl
    by_cases hlt : j < 6
    · have i1 : (j : Int) < 6 := by omega
      generalize binv a j = y at *
      go_wp2_with fail
      go_round
      case rel => exact ⟨j + 1, by omega, by go_num, by rw [HB.out]⟩
      case measure => simp [intOf]; omega
    · have hje : Hid (j = 6) := by unfold Hid; omega
      have i1 : ¬ (j : Int) < 6 := by omega
      go_wp2_with fail
      go_ret
      exact ⟨by rw [hje.out]; rfl, rfl⟩
theorem unmix_any (x : BitVec 64) (w : World) :
    Calls Try.prog 11 #[W64 x] w fun e w' => e = .returned (W64 (bunmix x)) ∧ w = w' := by
  have hm := wv_mul
  have e1 : Value.int .u64 13787848793156543929 = W64 13787848793156543929#64 := rfl
  have e2 : Value.int .u64 10723151780598845931 = W64 10723151780598845931#64 := rfl
  go_enter Try.func11, Try.ntmps11
  go_wp2_with fail
  refine (unshift31 x _).mono ?_
  rintro e w' ⟨rfl, rfl⟩
  go_wp2_with fail
  refine (inverse_any 10723151780598845931#64 _).mono ?_
  rintro e w' ⟨rfl, rfl⟩
  go_wp2_with fail
  refine (unshift27 _ _).mono ?_
  rintro e w' ⟨rfl, rfl⟩
  go_wp2_with fail
  refine (inverse_any 13787848793156543929#64 _).mono ?_
  rintro e w' ⟨rfl, rfl⟩
  go_wp2_with fail
  refine (unshift30 _ _).mono ?_
  rintro e w' ⟨rfl, rfl⟩
  go_wp2_with fail
  go_ret
  exact ⟨rfl, rfl⟩
end Go.Proofs.Ytakjcodfcoaadaa
