/- How many points so many digits have, walked. No condition. -/
import Derived.Test.YtmcbkjepjijfjaaEvM
import Derived.BigQuiet
import Derived.IntWalk
namespace Go.Proofs.Ytmcbkjepjijfjaa
open Go.ChangeShapes Go.WideShapes Go.ChangeAt Go.RowKit
set_option linter.unusedVariables false

set_option maxHeartbeats 2000000 in
theorem epow_aux (b d : Nat) (w : World) (hb : 2 ≤ b) (hb2 : b ≤ 36) (hd : d ≤ 30) (r : Array Value) (hr : Hid (r = if b ^ d ≤ 1073741824 then #[.int .i64 (b ^ d : Nat), .bool true] else #[.int .i64 0, .bool false])) :
    Calls Try.prog 76 #[.int .i64 b, .int .i64 d] w fun e w' => e = .returned (.tuple r) ∧ w = w' := by
  go_enter Try.func76, Try.ntmps76
  go_wp2_with fail
  go_loop [6, 8] (fun s6 s8 => ∃ j : Nat, j ≤ d ∧ s8 = .int .i64 j ∧ s6 = .int .i64 (b ^ j : Nat) ∧ b ^ j ≤ 1073741824) (fun _ s8 => d - (intOf s8).toNat)
  case atStart => exact ⟨0, Nat.zero_le _, rfl, rfl, by rw [Nat.pow_zero]; decide⟩
  case round =>
    obtain ⟨j, hj, rfl, rfl, hp⟩ := hrel
    by_cases hlt : j < d
    · have i1 : (j : Int) < (d : Int) := by omega
      have HP : Hid (b ^ (j + 1) = b ^ j * b) := Nat.pow_succ ..
      have HM : Hid (b ^ (j + 1) ≤ b ^ d) := Nat.pow_le_pow_right (by omega) hlt
      generalize b ^ j = p at *
      have hq : p * b ≤ 1073741824 * 36 := Nat.mul_le_mul hp hb2
      have hc : (p : Int) * (b : Int) = ((p * b : Nat) : Int) := (Int.natCast_mul _ _).symm
      by_cases h1 : p * b ≤ 1073741824
      · have hle : ¬ (1073741824 : Int) < ((p * b : Nat) : Int) := by omega
        generalize p * b = q at *
        have i2 : ¬ (1073741824 : Int) < (q : Int) := by omega
        have i3 : ¬ 1073741824 < q := by omega
        go_wp2_with fail
        go_round
        case rel => exact ⟨j + 1, by omega, by go_num, by rw [HP.out], by rw [HP.out]; exact h1⟩
        case measure => simp [intOf]; omega
      · have HF : Hid (¬ b ^ d ≤ 1073741824) := by have h2 := HM.out; rw [HP.out] at h2; unfold Hid; omega
        generalize p * b = q at *
        have i2 : (1073741824 : Int) < (q : Int) := by omega
        have i3 : 1073741824 < q := by omega
        go_wp2_with fail
        go_ret2
        exact ⟨by rw [hr.out, if_neg HF.out]; rfl, rfl⟩
    · have i1 : ¬ (j : Int) < (d : Int) := by omega
      have hjd : j = d := by omega
      have HE : Hid (b ^ j = b ^ d) := by unfold Hid; rw [hjd]
      generalize b ^ j = p at *
      clear hjd
      go_wp2_with fail
      go_ret2
      exact ⟨by rw [hr.out, ← HE.out, if_pos hp]; rfl, rfl⟩
theorem epow_any (b d : Nat) (w : World) (hb : 2 ≤ b) (hb2 : b ≤ 36) (hd : d ≤ 30) :
    Calls Try.prog 76 #[.int .i64 b, .int .i64 d] w fun e w' => e = .returned (.tuple (if b ^ d ≤ 1073741824 then #[.int .i64 (b ^ d : Nat), .bool true] else #[.int .i64 0, .bool false])) ∧ w = w' := epow_aux b d w hb hb2 hd _ rfl
set_option maxHeartbeats 2000000 in
theorem all_good (b d : Nat) (w : World) (hb : 2 ≤ b) (hb2 : b ≤ 36) (hd : d ≤ 30) :
    Calls Try.prog 37 #[.int .i64 b, .int .i64 d] w fun e w' => e = .returned (.tuple (if b ^ d ≤ 1073741824 then #[.int .i64 (b ^ d : Nat), .int .i64 0] else #[.int .i64 0, .int .i64 4])) ∧ w = w' := by
  have HP := Lib.hid (epow_any b d w hb hb2 hd)
  have i1 : ¬ (b : Int) < 2 := by omega
  have i2 : ¬ 36 < (b : Int) := by omega
  have i3 : ¬ b < 2 := by omega
  have i4 : ¬ 36 < b := by omega
  have i5 : ¬ 30 < (d : Int) := by omega
  have i6 : ¬ 30 < d := by omega
  by_cases h : b ^ d ≤ 1073741824
  · have HE : Hid (b ^ d ≤ 1073741824) := h
    rw [if_pos h] at HP
    rw [if_pos h]
    clear h
    generalize b ^ d = p at *
    go_enter Try.func37, Try.ntmps37
    go_wp2_with fail
    refine HP.out.mono ?_
    rintro e w' ⟨rfl, rfl⟩
    go_wp2_with fail
    go_ret2
    exact ⟨rfl, rfl⟩
  · rw [if_neg h] at HP
    rw [if_neg h]
    clear h
    go_enter Try.func37, Try.ntmps37
    go_wp2_with fail
    refine HP.out.mono ?_
    rintro e w' ⟨rfl, rfl⟩
    go_wp2_with fail
    go_ret2
    exact ⟨rfl, rfl⟩
set_option maxHeartbeats 2000000 in
theorem yall_aux (b d : Nat) (w : World) (hb : 2 ≤ b) (hb2 : b ≤ 36) (hd : d ≤ 30) (r : Array Value) (hr : Hid (r = if b ^ d ≤ 1073741824 then #[.int .i64 (b ^ d : Nat), .int .i64 0] else #[.int .i64 0, .int .i64 4])) :
    Calls Try.prog 38 #[.int .i64 b, .int .i64 d] w fun e w' => e = .returned (.tuple r) ∧ w = w' := by
  have i1 : ¬ (b : Int) < 2 := by omega
  have i2 : ¬ 36 < (b : Int) := by omega
  have i3 : ¬ b < 2 := by omega
  have i4 : ¬ 36 < b := by omega
  have i5 : ¬ 30 < (d : Int) := by omega
  have i6 : ¬ 30 < d := by omega
  go_enter Try.func38, Try.ntmps38
  go_wp2_with fail
  clear i1 i2 i3 i4 i5 i6
  go_loop [6, 7] (fun s6 s7 => ∃ j : Nat, j ≤ d ∧ s7 = .int .i64 j ∧ s6 = .int .i64 (b ^ j : Nat) ∧ b ^ j ≤ 1073741824) (fun _ s7 => d - (intOf s7).toNat)
  case atStart => exact ⟨0, Nat.zero_le _, rfl, rfl, by rw [Nat.pow_zero]; decide⟩
  case round =>
    obtain ⟨j, hj, rfl, rfl, hp⟩ := hrel
    by_cases hlt : j < d
    · have i1 : (j : Int) < (d : Int) := by omega
      have HP : Hid (b ^ (j + 1) = b ^ j * b) := Nat.pow_succ ..
      have HM : Hid (b ^ (j + 1) ≤ b ^ d) := Nat.pow_le_pow_right (by omega) hlt
      generalize b ^ j = p at *
      have hdv : p * b ≤ 1073741824 ↔ p ≤ 1073741824 / b := (Nat.le_div_iff_mul_le (by omega)).symm
      have hq : p * b ≤ 1073741824 * 36 := Nat.mul_le_mul hp hb2
      have hc : (p : Int) * (b : Int) = ((p * b : Nat) : Int) := (Int.natCast_mul _ _).symm
      have hc2 : (1073741824 : Int) / (b : Int) = ((1073741824 / b : Nat) : Int) := by rw [Int.natCast_ediv]; rfl
      by_cases h1 : p * b ≤ 1073741824
      · have h2 := hdv.1 h1
        generalize 1073741824 / b = v at *
        generalize p * b = q at *
        have i2 : ¬ (v : Int) < (p : Int) := by omega
        have i3 : ¬ v < p := by omega
        go_wp2_with fail
        go_round
        case rel => exact ⟨j + 1, by omega, by go_num, by rw [HP.out], by rw [HP.out]; exact h1⟩
        case measure => simp [intOf]; omega
      · have HF : Hid (¬ b ^ d ≤ 1073741824) := by have h2 := HM.out; rw [HP.out] at h2; unfold Hid; omega
        have h2 : ¬ p ≤ 1073741824 / b := fun h3 => h1 (hdv.2 h3)
        generalize 1073741824 / b = v at *
        generalize p * b = q at *
        have i2 : (v : Int) < (p : Int) := by omega
        have i3 : v < p := by omega
        go_wp2_with fail
        go_ret2
        exact ⟨by rw [hr.out, if_neg HF.out]; rfl, rfl⟩
    · have i1 : ¬ (j : Int) < (d : Int) := by omega
      have hjd : j = d := by omega
      have HE : Hid (b ^ j = b ^ d) := by unfold Hid; rw [hjd]
      generalize b ^ j = p at *
      clear hjd
      go_wp2_with fail
      go_ret2
      exact ⟨by rw [hr.out, ← HE.out, if_pos hp]; rfl, rfl⟩
theorem yall_good (b d : Nat) (w : World) (hb : 2 ≤ b) (hb2 : b ≤ 36) (hd : d ≤ 30) :
    Calls Try.prog 38 #[.int .i64 b, .int .i64 d] w fun e w' => e = .returned (.tuple (if b ^ d ≤ 1073741824 then #[.int .i64 (b ^ d : Nat), .int .i64 0] else #[.int .i64 0, .int .i64 4])) ∧ w = w' := yall_aux b d w hb hb2 hd _ rfl
theorem all_bad (b d : Int) (w : World) (h : ¬ (2 ≤ b ∧ b ≤ 36 ∧ 0 ≤ d ∧ d ≤ 30)) :
    Calls Try.prog 37 #[.int .i64 b, .int .i64 d] w fun e w' => e = .returned (.tuple #[.int .i64 0, .int .i64 2]) ∧ w = w' := by
  rcases (by omega : b < 2 ∨ (¬ b < 2 ∧ 36 < b) ∨ (¬ b < 2 ∧ ¬ 36 < b ∧ d < 0) ∨ (¬ b < 2 ∧ ¬ 36 < b ∧ ¬ d < 0 ∧ 30 < d)) with h1 | ⟨h1, h2⟩ | ⟨h1, h2, h3⟩ | ⟨h1, h2, h3, h4⟩
  · clear h
    go_enter Try.func37, Try.ntmps37
    go_wp2_with fail
    go_ret2
    exact ⟨rfl, rfl⟩
  · clear h
    go_enter Try.func37, Try.ntmps37
    go_wp2_with fail
    go_ret2
    exact ⟨rfl, rfl⟩
  · clear h
    go_enter Try.func37, Try.ntmps37
    go_wp2_with fail
    go_ret2
    exact ⟨rfl, rfl⟩
  · clear h
    go_enter Try.func37, Try.ntmps37
    go_wp2_with fail
    go_ret2
    exact ⟨rfl, rfl⟩
theorem all_any (b d : Int) (w : World) :
    Calls Try.prog 37 #[.int .i64 b, .int .i64 d] w fun e w' => e = .returned (.tuple #[.int .i64 (eall b d).1, .int .i64 (eall b d).2]) ∧ w = w' := by
  by_cases h : 2 ≤ b ∧ b ≤ 36 ∧ 0 ≤ d ∧ d ≤ 30
  · obtain ⟨B, rfl⟩ : ∃ B : Nat, b = B := ⟨b.toNat, by omega⟩
    obtain ⟨D, rfl⟩ : ∃ D : Nat, d = D := ⟨d.toNat, by omega⟩
    have hg := all_good B D w (by omega) (by omega) (by omega)
    have he : eall B D = if B ^ D ≤ 1073741824 then (((B ^ D : Nat) : Int), 0) else (0, 4) := if_pos h
    rw [he]
    by_cases hp : B ^ D ≤ 1073741824
    · rw [if_pos hp] at hg ⊢; exact hg
    · rw [if_neg hp] at hg ⊢; exact hg
  · have he : eall b d = (0, 2) := if_neg h
    rw [he]; exact all_bad b d w h
theorem yall_bad (b d : Int) (w : World) (h : ¬ (2 ≤ b ∧ b ≤ 36 ∧ 0 ≤ d ∧ d ≤ 30)) :
    Calls Try.prog 38 #[.int .i64 b, .int .i64 d] w fun e w' => e = .returned (.tuple #[.int .i64 0, .int .i64 2]) ∧ w = w' := by
  rcases (by omega : b < 2 ∨ (¬ b < 2 ∧ 36 < b) ∨ (¬ b < 2 ∧ ¬ 36 < b ∧ d < 0) ∨ (¬ b < 2 ∧ ¬ 36 < b ∧ ¬ d < 0 ∧ 30 < d)) with h1 | ⟨h1, h2⟩ | ⟨h1, h2, h3⟩ | ⟨h1, h2, h3, h4⟩
  · clear h
    go_enter Try.func38, Try.ntmps38
    go_wp2_with fail
    go_ret2
    exact ⟨rfl, rfl⟩
  · clear h
    go_enter Try.func38, Try.ntmps38
    go_wp2_with fail
    go_ret2
    exact ⟨rfl, rfl⟩
  · clear h
    go_enter Try.func38, Try.ntmps38
    go_wp2_with fail
    go_ret2
    exact ⟨rfl, rfl⟩
  · clear h
    go_enter Try.func38, Try.ntmps38
    go_wp2_with fail
    go_ret2
    exact ⟨rfl, rfl⟩
theorem yall_any (b d : Int) (w : World) :
    Calls Try.prog 38 #[.int .i64 b, .int .i64 d] w fun e w' => e = .returned (.tuple #[.int .i64 (eall b d).1, .int .i64 (eall b d).2]) ∧ w = w' := by
  by_cases h : 2 ≤ b ∧ b ≤ 36 ∧ 0 ≤ d ∧ d ≤ 30
  · obtain ⟨B, rfl⟩ : ∃ B : Nat, b = B := ⟨b.toNat, by omega⟩
    obtain ⟨D, rfl⟩ : ∃ D : Nat, d = D := ⟨d.toNat, by omega⟩
    have hg := yall_good B D w (by omega) (by omega) (by omega)
    have he : eall B D = if B ^ D ≤ 1073741824 then (((B ^ D : Nat) : Int), 0) else (0, 4) := if_pos h
    rw [he]
    by_cases hp : B ^ D ≤ 1073741824
    · rw [if_pos hp] at hg ⊢; exact hg
    · rw [if_neg hp] at hg ⊢; exact hg
  · have he : eall b d = (0, 2) := if_neg h
    rw [he]; exact yall_bad b d w h
end Go.Proofs.Ytmcbkjepjijfjaa
